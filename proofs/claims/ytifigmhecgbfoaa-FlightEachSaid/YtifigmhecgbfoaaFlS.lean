/- An array of counts beside a Flight; two slices one behind the other. -/
import Derived.Test.YtifigmhecgbfoaaFlR
import Derived.Test.YtifigmhecgbfoaaLow
import Derived.Test.YtifigmhecgbfoaaCut
namespace Go.Proofs.Ytifigmhecgbfoaa
open Go.RowKit

/-- An array of so many counts. -/
def tv (n : Nat) (T : Nat → Nat) : List Value := (List.range n).map fun x => .int .i64 (T x)
@[simp] theorem tv_length (n : Nat) (T : Nat → Nat) : (tv n T).length = n := by simp [tv]
theorem tv_get (n : Nat) (T : Nat → Nat) (x : Nat) (h : x < n) : (tv n T)[x]? = some (.int .i64 (T x)) := by simp [tv, h]
theorem tv_set (n : Nat) (T : Nat → Nat) (x v : Nat) : (tv n T).set x (.int .i64 v) = tv n (fun y => if y = x then v else T y) := by
  apply List.ext_getElem
  · simp
  · intro i h1 h2
    rw [List.getElem_set]
    by_cases h : x = i
    · subst h; simp [tv]
    · rw [if_neg h]; simp [tv]; rw [if_neg (by omega)]
def AtArr (t : TypeId) (B : Nat) (w : World) (g n : Nat) (T : Nat → Nat) : Prop := w.ownsRow B t 1 (.slice (some ⟨g, 0, none⟩) n n) n (tv n T)
section
variable {t : TypeId} {B : Nat} {w w' : World} {g n : Nat} {T : Nat → Nat}
theorem AtArr.cell (h : AtArr t B w g n T) {x : Nat} (hx : x < n) : w.cell? ⟨g, x, none⟩ = some (.int .i64 (T x)) := by
  have := h.cells (g := g) rfl x _ (tv_get n T x hx)
  rwa [WideShapes.add_plain, Nat.zero_add] at this
theorem AtArr.frozen (h : AtArr t B w g n T) (x : Nat) : w.frozen? ⟨g, x, none⟩ = false := h.frozenAt x
theorem AtArr.put (h : AtArr t B w g n T) (x v : Nat) : AtArr t B (w.setCell ⟨g, x, none⟩ (.int .i64 v)) g n (fun y => if y = x then v else T y) := by
  have := (h.stored x (.int .i64 v)).1
  rwa [tv_set] at this
theorem AtArr.new (t : TypeId) (w : World) (n : Nat) (hn : n ≤ 1000) (cs : Array Value) (hc : cs = (tv n (fun _ => 0)).toArray) : AtArr t w.heap.size (w.alloc (.cells cs t)) w.heap.size n (fun _ => 0) := by
  subst hc
  refine ⟨by simp, .inr ⟨w.heap.size, n, (tv n (fun _ => 0)).toArray, rfl, Nat.le_refl _, heap_alloc_new w _, Nat.le_refl _, by simp [maxLen]; omega, by simp, ?_⟩⟩
  rw [List.take_of_length_le (by simp)]
/-- Rows of two types lie in two blocks. -/
theorem own_ne_type {b b2 : Nat} {e e2 : TypeId} {s s2 : Nat} {v : Value} {n n2 c2 : Nat} {xs xs2 : List Value} (h : w.ownsRow b e s v n xs) (h2 : w.ownsRow b2 e2 s2 (.slice (some ⟨g, 0, none⟩) n2 c2) n2 xs2) (he : (e == e2) = false) : ∀ k, v.ownBlock = some k → k ≠ g := by
  intro k hk hkg
  subst hkg
  rcases h.2 with ⟨h', _⟩ | ⟨g1, cap1, cur1, hv, _, hg1, _⟩
  · rw [h'] at hk; cases hk
  · rw [hv] at hk
    injection hk with hk
    simp only at hk
    subst hk
    rcases h2.2 with ⟨h', _⟩ | ⟨g3, cap3, cur3, hv3, _, hg3, _⟩
    · cases h'
    · injection hv3 with hA
      injection hA with hA
      injection hA with hA
      subst hA
      rw [hg1] at hg3
      injection hg3 with hg3
      injection hg3 with _ h5
      rw [h5] at he
      simp at he
theorem AtArr.put_other {b : Nat} {e : TypeId} {s : Nat} {v : Value} {m : Nat} {xs : List Value} (h : AtArr t B w g n T) (ho : w.ownsRow b e s v m xs) (he : (e == t) = false) (x : Nat) (u : Value) : (w.setCell ⟨g, x, none⟩ u).ownsRow b e s v m xs :=
  own_fr ho ((Fr.refl (fun k => k = g) w).setCell (p := ⟨g, x, none⟩) (fun _ => rfl) u) (fun k hk e2 => own_ne_type ho h he k hk e2)
theorem FlAt.put {w0 : World} {p : Nat} {f : Fl} (hF : FlAt B w0 w p f) (h : AtArr t B w g n T) (h1 : (t == 60) = false) (h2 : (t == 62) = false) (x : Nat) (u : Value) : FlAt B w0 (w.setCell ⟨g, x, none⟩ u) p f := by
  obtain ⟨A, c, hI, hon, hb, hB⟩ := hF
  have F := (Fr.refl (fun k => k = g) w).setCell (p := ⟨g, x, none⟩) (fun _ => rfl) u
  have hg : B ≤ g := (h.lt g rfl).1
  have hap : ∀ k, k = g → ¬ OnFl p A k := fun k hk hon => by
    subst hk
    rcases h.2 with ⟨hv, _⟩ | ⟨g1, cap, cur, hv, _, hgr, _⟩
    · cases hv
    · injection hv with hv
      injection hv with hv
      injection hv with hv
      subst hv
      rcases hon with rfl | ⟨a, ha, hb⟩
      · have := hI.cell
        rw [hgr] at this
        injection this with this
        injection this with _ h3
        rw [h3] at h1
        simp at h1
      · rcases hI.row.2 with ⟨h4, _⟩ | ⟨g3, cap3, cur3, hv3, _, hg3, _⟩
        · injection h4 with h4; rw [h4] at ha; cases ha
        · injection hv3 with hA
          rw [hA] at ha
          injection ha with ha
          subst ha
          simp only at hb
          subst hb
          rw [hgr] at hg3
          injection hg3 with this
          injection this with _ h3
          rw [h3] at h2
          simp at h2
  exact ⟨A, c, hI.fr F (fun e => hap p e (.inl rfl)) (fun a ha e => hap _ e (.inr ⟨a, ha, rfl⟩)), hon, F.under hb hB (fun k hk _ => by omega), by have := F.size; omega⟩
end
theorem bel_own {w w' : World} {b : Nat} {e : TypeId} {s : Nat} {v : Value} {n : Nat} {xs : List Value} (h : Below w.heap.size w w') (ho : w.ownsRow b e s v n xs) : w'.ownsRow b e s v n xs := own_fr ho (Fr.of_below h NoS) (fun _ _ x => x)
/-- What an append onto an own row leaves of rows of another type. -/
theorem grown_kp {w w' : World} {b b2 : Nat} {e e2 : TypeId} {s s2 : Nat} {v v2 : Value} {n n2 : Nat} {xs xs2 : List Value} (ho : w.ownsRow b e s v n xs) (hg : w.grownBy w' v.ownBlock) (ho2 : w.ownsRow b2 e2 s2 v2 n2 xs2) (he : (e2 == e) = false) : w'.ownsRow b2 e2 s2 v2 n2 xs2 := by
  refine own_fr ho2 ((Fr.refl (fun k => v.ownBlock = some k) w).grown hg (fun _ hk _ => hk)) (fun k hk hk2 => ?_)
  rcases ho.2 with ⟨h', _⟩ | ⟨g1, cap1, cur1, hv, hb1, hg1, r⟩
  · rw [h'] at hk2; cases hk2
  · subst hv
    injection hk2 with hk2
    simp only at hk2
    subst hk2
    exact own_ne_type ho2 (g := g1) ho he g1 hk rfl
theorem nv_app (l m : List Nat) : nv (l ++ m) = nv l ++ nv m := by simp [nv]
/-- The same, without a new block ahead. -/
theorem FlAt.grown0 {B : Nat} {w0 w w' : World} {p : Nat} {f : Fl} (h : FlAt B w0 w p f) {b : Nat} {e : TypeId} {s : Nat} {v : Value} {n : Nat} {xs : List Value} (hb0 : B ≤ b) (ho : w.ownsRow b e s v n xs) (h1 : (e == 60) = false) (h2 : (e == 62) = false) (hg : w.grownBy w' v.ownBlock) : FlAt B w0 w' p f := by
  obtain ⟨A, c, hI, hon, hb, hB⟩ := h
  have F : Fr (fun k => v.ownBlock = some k) w w' := (Fr.refl _ w).grown hg (fun k hk _ => hk)
  have hap : ∀ k, v.ownBlock = some k → ¬ OnFl p A k := fun k hk hon => by
    rcases ho.2 with ⟨hv, _⟩ | ⟨g, cap, cur, hv, _, hgr, _⟩
    · subst hv; cases hk
    · subst hv
      injection hk with hk
      simp only at hk
      subst hk
      rcases hon with rfl | ⟨a, ha, hb⟩
      · have := hI.cell
        rw [hgr] at this
        injection this with this
        injection this with _ h3
        rw [h3] at h1
        simp at h1
      · rcases hI.row.2 with ⟨h4, _⟩ | ⟨g3, cap3, cur3, hv3, _, hg3, _⟩
        · injection h4 with h4; rw [h4] at ha; cases ha
        · injection hv3 with hA
          rw [hA] at ha
          injection ha with ha
          subst ha
          simp only at hb
          subst hb
          rw [hgr] at hg3
          injection hg3 with this
          injection this with _ h3
          rw [h3] at h2
          simp at h2
  exact ⟨A, c, hI.fr F (fun e => hap p e (.inl rfl)) (fun a ha e => hap _ e (.inr ⟨a, ha, rfl⟩)), hon, F.under hb hB (fun k hk _ => Nat.le_trans hb0 (ho.lt k hk).1), by have := F.size; omega⟩
end Go.Proofs.Ytifigmhecgbfoaa
