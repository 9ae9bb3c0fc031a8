/- flight: what a Flight holds: its packets that are under way, and five words. New, Under, Largest, Sent. -/
import Derived.Test.YtifigmhecgbfoaaRow
namespace Go.Proofs.Ytifigmhecgbfoaa
open Go.RowKit

theorem infoP : (Try.prog.info? 62).map (fun i => (i.zero, i.size, i.bytes)) = some (some (.agg #[.int .u64 0, .int .i64 0, .bool false]), 3, 24) := by kernel_rfl
theorem infoU : (Try.prog.info? 27).map (fun i => (i.zero, i.size, i.bytes)) = some (some (.int .u64 0), 1, 8) := by kernel_rfl

structure Pk where
  num : Nat
  tick : Nat
  cnt : Bool
deriving DecidableEq
def Pk.cells (x : Pk) : List Value := [.int .u64 x.num, .int .i64 x.tick, .bool x.cnt]
def Pk.agg (x : Pk) : Value := .agg #[.int .u64 x.num, .int .i64 x.tick, .bool x.cnt]
def Pk.ok (x : Pk) : Prop := x.num ≤ 4611686018427387903 ∧ x.tick ≤ 9223372036854775807
def pkv : List Pk → List Value
  | [] => []
  | x :: l => x.cells ++ pkv l
@[simp] theorem pkv_length (l : List Pk) : (pkv l).length = l.length * 3 := by
  induction l with
  | nil => rfl
  | cons x l ih => simp [pkv, Pk.cells, ih]; omega
theorem pkv_append (l m : List Pk) : pkv (l ++ m) = pkv l ++ pkv m := by
  induction l with
  | nil => rfl
  | cons x l ih => simp [pkv, ih]
theorem pkv_one (l : List Pk) : ∀ u ∈ pkv l, u.oneCell' = true := by
  induction l with
  | nil => intro u hu; cases hu
  | cons x l ih =>
    intro u hu
    simp only [pkv, Pk.cells, List.cons_append, List.nil_append, List.mem_cons] at hu
    rcases hu with rfl | rfl | rfl | hu
    · rfl
    · rfl
    · rfl
    · exact ih u hu
theorem pkv_get : ∀ (l : List Pk) (k : Nat) (x : Pk), l[k]? = some x → ∀ j v, x.cells[j]? = some v → (pkv l)[k * 3 + j]? = some v
  | y :: l, 0, x, h, j, v, hv => by
    simp at h; subst h
    have hj : j < 3 := by have := (List.getElem?_eq_some_iff.1 hv).1; simpa [Pk.cells] using this
    rw [pkv, List.getElem?_append_left (by simp [Pk.cells]; omega)]
    simpa using hv
  | y :: l, k + 1, x, h, j, v, hv => by
    have := pkv_get l k x (by simpa using h) j v hv
    rw [pkv, List.getElem?_append_right (by simp [Pk.cells]; omega)]
    simpa [Pk.cells, show (k + 1) * 3 + j - 3 = k * 3 + j by omega] using this
theorem pkv_take (l : List Pk) (k : Nat) : pkv (l.take k) = (pkv l).take (k * 3) := by
  induction l generalizing k with
  | nil => simp [pkv]
  | cons x l ih =>
    cases k with
    | zero => simp [pkv]
    | succ k => simp [pkv, ih, Pk.cells, show (k + 1) * 3 = k * 3 + 3 by omega]
theorem pkv_drop (l : List Pk) (k : Nat) : pkv (l.drop k) = (pkv l).drop (k * 3) := by
  induction l generalizing k with
  | nil => simp [pkv]
  | cons x l ih =>
    cases k with
    | zero => simp [pkv]
    | succ k => simp [pkv, ih, Pk.cells, show (k + 1) * 3 = k * 3 + 3 by omega]

structure Fl where
  l : List Pk
  any : Bool
  came : Bool
  last : Nat
  tick : Nat
  largest : Nat

/-- Block p is a Flight; its packets lie at A. -/
structure IsFl (w : World) (p : Nat) (A : Option Addr) (c : Nat) (f : Fl) : Prop where
  cell : w.heap[p]? = some (.cells #[.slice A f.l.length c, .bool f.any, .bool f.came, .int .u64 f.last, .int .i64 f.tick, .int .u64 f.largest] 60 (0, 0))
  row : w.ownsRow 0 62 3 (.slice A f.l.length c) f.l.length (pkv f.l)
  small : f.l.length ≤ 100000
  oks : ∀ x ∈ f.l, x.ok
  last : f.last ≤ 4611686018427387903
  lgst : f.largest ≤ 4611686018427387903
  tick : f.tick ≤ 9223372036854775807

theorem wrote_cell {w : World} {p : Nat} {cs : Array Value} {t : TypeId} (h : w.heap[p]? = some (.cells cs t (0, 0))) (i : Nat) (v : Value) (hi : cs[i]? = some v) : w.cell? ⟨p, i, none⟩ = some v := by
  rw [cell_of_row w p i cs t (0, 0) h]; exact hi

section
variable {w w' : World} {p : Nat} {A : Option Addr} {c : Nat} {f : Fl}
theorem IsFl.rd (h : IsFl w p A c f) : Rd w A (pkv f.l) := fun hn => by
  have hl := h.row.1
  rcases h.row.2 with ⟨h1, h2⟩ | ⟨g, cap, cur, hv, _, hg, hnc, _, hcs, ht⟩
  · rw [pkv_length] at hn; omega
  · injection hv with hA _ _
    subst hA
    refine ⟨g, 0, rfl, fun k u hu => ?_⟩
    rw [Nat.zero_add, cell_of_row w g k cur _ (0, 0) hg]
    rw [← ht, List.getElem?_take] at hu
    split at hu
    · simpa using hu
    · cases hu
theorem IsFl.lt (h : IsFl w p A c f) : p < w.heap.size := heap_lt h.cell
theorem IsFl.at (h : IsFl w p A c f) : A = none ∨ ∃ g, A = some ⟨g, 0, none⟩ ∧ p ≠ g ∧ g < w.heap.size := by
  rcases h.row.2 with ⟨h1, _⟩ | ⟨g, cap, cur, hv, _, hg, hnc, _, hcs, ht⟩
  · injection h1 with h1; exact .inl h1
  · injection hv with hA _ hc
    subst hA
    subst hc
    exact .inr ⟨g, rfl, own_typed h.row h.cell rfl, heap_lt hg⟩
theorem IsFl.ne (h : IsFl w p A c f) : ∀ a, A = some a → a.block ≠ p := by
  intro a ha
  rcases h.at with h1 | ⟨g, h1, h2, _⟩
  · rw [h1] at ha; cases ha
  · rw [h1] at ha; injection ha with ha; subst ha; exact fun e => h2 e.symm
theorem IsFl.fr {T : Nat → Prop} (h : IsFl w p A c f) (fr : Fr T w w') (hp : ¬ T p) (hA : ∀ a, A = some a → ¬ T a.block) : IsFl w' p A c f :=
  ⟨heap_fr h.cell fr hp, own_fr h.row fr (fun k hk => by
    cases A with
    | none => cases hk
    | some a => injection hk with hk; subst hk; exact hA a rfl), h.small, h.oks, h.last, h.lgst, h.tick⟩
theorem IsFl.drewN (h : IsFl w p A c f) (k : Nat) : IsFl (w.drewN k) p A c f := h.fr ((Fr.refl NoS w).drewN k) (fun x => x) (fun _ _ x => x)
theorem IsFl.below (h : IsFl w p A c f) (b : Below w.heap.size w w') : IsFl w' p A c f := h.fr (Fr.of_below b NoS) (fun x => x) (fun _ _ x => x)
theorem IsFl.alloc (h : IsFl w p A c f) (o : Obj) : IsFl (w.alloc o) p A c f := h.fr ((Fr.refl NoS w).alloc o) (fun x => x) (fun _ _ x => x)

def fnew : Fl := ⟨[], false, false, 0, 0, 0⟩
theorem new_any (w : World) : Calls Try.prog 9 #[] w fun e w' => e = .returned (.pointer (some ⟨w.heap.size, 0, none⟩)) ∧ IsFl w' w.heap.size none 0 fnew ∧ Below w.heap.size w w' := by
  go_enter Try.func9, Try.ntmps9
  go_wp2
  go_ret
  refine ⟨rfl, ⟨heap_alloc_new w _, World.ownsRow_nil _ _ _ _, by simp [fnew], by simp [fnew], by simp [fnew], by simp [fnew], by simp [fnew]⟩, (Below.refl _ w).alloc (Nat.le_refl _) _⟩

set_option maxHeartbeats 1000000 in
theorem under_any (h : IsFl w p A c f) : Calls Try.prog 13 #[.pointer (some ⟨p, 0, none⟩)] w fun e w' => e = .returned (.int .i64 f.l.length) ∧ w = w' := by
  have c0 := wrote_cell h.cell 0 _ rfl
  go_enter Try.func13, Try.ntmps13
  go_wp2
  go_ret
  exact ⟨rfl, rfl⟩
set_option maxHeartbeats 1000000 in
theorem largest_any (h : IsFl w p A c f) : Calls Try.prog 16 #[.pointer (some ⟨p, 0, none⟩)] w fun e w' => e = .returned (.tuple #[.int .u64 f.largest, .bool f.came]) ∧ ∃ k, w' = w.drewN k := by
  have c5 := wrote_cell h.cell 5 _ rfl
  have c2 := wrote_cell h.cell 2 _ rfl
  go_enter Try.func16, Try.ntmps16
  go_wp2_with fail
  go_quiet (fail)
  go_wp2_with fail
  go_ret2
  exact ⟨rfl, _, rfl⟩
end
end Go.Proofs.Ytifigmhecgbfoaa
