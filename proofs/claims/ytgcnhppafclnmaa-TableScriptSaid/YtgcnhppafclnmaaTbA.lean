/- table: what a Table holds. New, Size, Count, Used. -/
import Derived.Test.YtgcnhppafclnmaaAt
import Derived.Test.YtgcnhppafclnmaaTbP
import Derived.Test.YtgcnhppafclnmaaCpy
namespace Go.Proofs.Ytgcnhppafclnmaa
open Go.RowKit

theorem infoF : (Try.prog.info? 28).map (fun i => (i.zero, i.size, i.bytes)) = some (some (.agg #[.string .empty, .string .empty]), 2, 32) := by kernel_rfl

def Fd.cells (f : Fd) : List Value := [.string f.name, .string f.value]
def Fd.agg (f : Fd) : Value := .agg #[.string f.name, .string f.value]
theorem fdc (f : Fd) : f.cells.length = 2 := rfl
theorem fdo (f : Fd) : ∀ u ∈ f.cells, u.oneCell' = true := by
  intro u hu; simp [Fd.cells] at hu; rcases hu with rfl | rfl <;> rfl
abbrev fdv (l : List Fd) : List Value := rv Fd.cells l
@[simp] theorem fdv_len (l : List Fd) : (fdv l).length = l.length * 2 := rv_length Fd.cells fdc l
theorem fdv_append (l m : List Fd) : fdv (l ++ m) = fdv l ++ fdv m := rv_append Fd.cells l m
theorem fdv_take (l : List Fd) (k : Nat) : fdv (l.take k) = (fdv l).take (k * 2) := rv_take Fd.cells fdc l k
theorem fdv_drop (l : List Fd) (k : Nat) : fdv (l.drop k) = (fdv l).drop (k * 2) := rv_drop Fd.cells fdc l k
theorem fdv_one (l : List Fd) : ∀ u ∈ fdv l, u.oneCell' = true := rv_one Fd.cells fdo l
theorem load_fd {W : World} {A : Option Addr} {l : List Fd} (hr : Rd W A (fdv l)) {k : Nat} (hk : k < l.length) :
    ∃ b off, A = some ⟨b, off, none⟩ ∧ W.cell? ⟨b, off + k * 2, none⟩ = some (.string (l[k]).name) ∧ W.cell? ⟨b, off + k * 2 + 1, none⟩ = some (.string (l[k]).value) := by
  obtain ⟨b, off, e, h⟩ := rv_cell Fd.cells fdc (by omega) hr hk
  exact ⟨b, off, e, h 0 _ rfl, h 1 _ rfl⟩
/-- 's[k:]' of a slice of records. -/
theorem Rd.dropS {w : World} {A : Option Addr} {xs : List Value} (h : Rd w A xs) {k len cap s : Nat} (hk : k ≤ len) (hc : len ≤ cap) (hl : xs.length = len * s) : Rd w (if cap = k then A else A.map (·.add (k * s))) (xs.drop (k * s)) := fun hn => by
  obtain ⟨b, off, e, hcell⟩ := h (by simp at hn; omega)
  have hlt : k < len := by
    rcases Nat.lt_or_ge k len with h1 | h1
    · exact h1
    · have : k = len := by omega
      subst this
      simp [hl] at hn
  rw [if_neg (by omega)]
  subst e
  refine ⟨b, off + k * s, by simp [WideShapes.add_plain], fun j u hu => ?_⟩
  rw [List.getElem?_drop] at hu
  rw [Nat.add_assoc]
  exact hcell _ u hu

/-- Block p is a Table; its fields lie at A. -/
structure IsTb (w : World) (p : Nat) (A : Option Addr) (c : Nat) (t : Tb) : Prop where
  cell : w.heap[p]? = some (.cells #[.int .i64 t.most, .int .i64 t.used, .int .u64 t.gone, .slice A t.l.length c] 53 (0, 0))
  row : w.ownsRow 0 28 2 (.slice A t.l.length c) t.l.length (fdv t.l)
  ok : t.Ok
  small : t.F.length ≤ 1000000
  most : t.most ≤ 1000000
def IsTbS (w : World) (p : Nat) (S : Nat → Prop) (t : Tb) : Prop := ∃ A c, IsTb w p A c t ∧ S = OnB p A

section
variable {w w' : World} {p : Nat} {A : Option Addr} {c : Nat} {t : Tb}
theorem IsTb.rd (h : IsTb w p A c t) : Rd w A (fdv t.l) := Rd.of_ownS h.row
theorem IsTb.lt (h : IsTb w p A c t) : p < w.heap.size := heap_lt h.cell
theorem IsTb.at (h : IsTb w p A c t) : A = none ∨ ∃ g, A = some ⟨g, 0, none⟩ ∧ p ≠ g ∧ g < w.heap.size := by
  rcases ownS_cases h.row with ⟨h1, _⟩ | ⟨g, h1, _, h3, _⟩
  · exact .inl h1
  · subst h1
    exact .inr ⟨g, rfl, own_typed h.row h.cell rfl, h3⟩
theorem IsTb.ne (h : IsTb w p A c t) : ∀ a, A = some a → a.block ≠ p := by
  intro a ha
  rcases h.at with h1 | ⟨g, h1, h2, _⟩
  · rw [h1] at ha; cases ha
  · rw [h1] at ha; injection ha with ha; subst ha; exact fun e => h2 e.symm
theorem IsTb.on_lt (h : IsTb w p A c t) : ∀ k, OnB p A k → k < w.heap.size := by
  rintro k (rfl | ⟨a, ha, rfl⟩)
  · exact h.lt
  · rcases h.at with h1 | ⟨g, h1, _, h3⟩
    · rw [h1] at ha; cases ha
    · rw [h1] at ha; injection ha with ha; subst ha; exact h3
theorem IsTb.fr {T : Nat → Prop} (h : IsTb w p A c t) (fr : Fr T w w') (hp : ¬ T p) (hA : ∀ a, A = some a → ¬ T a.block) : IsTb w' p A c t :=
  ⟨heap_fr h.cell fr hp, own_fr h.row fr (fun k hk => by
    cases A with
    | none => cases hk
    | some a => injection hk with hk; subst hk; exact hA a rfl), h.ok, h.small, h.most⟩
theorem IsTb.drewN (h : IsTb w p A c t) (k : Nat) : IsTb (w.drewN k) p A c t := h.fr ((Fr.refl NoS w).drewN k) (fun x => x) (fun _ _ x => x)
theorem IsTb.below (h : IsTb w p A c t) (b : Below w.heap.size w w') : IsTb w' p A c t := h.fr (Fr.of_below b NoS) (fun x => x) (fun _ _ x => x)
theorem IsTb.alloc (h : IsTb w p A c t) (o : Obj) : IsTb (w.alloc o) p A c t := h.fr ((Fr.refl NoS w).alloc o) (fun x => x) (fun _ _ x => x)
theorem IsTb.len (h : IsTb w p A c t) : t.l.length ≤ 1000000 := by have := t.len_add h.ok; have := h.small; omega
theorem IsTb.nilcap (h : IsTb w p A c t) : A = none → c = 0 := by
  intro e
  rcases ownS_cases h.row with ⟨_, _, h2, _⟩ | ⟨g, h1, _⟩
  · exact h2
  · rw [e] at h1; cases h1
theorem IsTb.cap (h : IsTb w p A c t) : t.l.length ≤ c ∧ c ≤ maxLen := by
  rcases ownS_cases h.row with ⟨_, h1, h2, _⟩ | ⟨g, _, _, _, h3, h4⟩
  · rw [h1, h2]; exact ⟨Nat.le_refl _, Nat.zero_le _⟩
  · exact ⟨h3, h4⟩
theorem tbOk : ObjOk IsTbS := by
  constructor
  · rintro w w' p S T t ⟨A, c, h, rfl⟩ F hT
    exact ⟨A, c, h.fr F (hT p (.inl rfl)) (fun a ha => hT _ (.inr ⟨a, ha, rfl⟩)), rfl⟩
  · rintro w p S t ⟨A, c, h, rfl⟩
    exact h.on_lt

set_option maxHeartbeats 400000 in
theorem tnew_no (most : Int) (w : World) (h : most < 0 ∨ 512 < most) : Calls Try.prog 8 #[.int .i64 most] w fun e w' => e = .returned (.pointer none) ∧ w = w' := by
  rcases h with h | h
  · have b1 : decide (most < 0) = true := decide_eq_true h
    clear h
    go_enter Try.func8, Try.ntmps8
    go_wp2_with fail
    go_ret
    exact ⟨rfl, rfl⟩
  · have b1 : decide (most < 0) = false := decide_eq_false (by omega)
    have b2 : decide (512 < most) = true := decide_eq_true h
    clear h
    go_enter Try.func8, Try.ntmps8
    go_wp2_with fail
    go_ret
    exact ⟨rfl, rfl⟩
set_option maxHeartbeats 400000 in
theorem tnew_any (most : Nat) (w : World) (h2 : most ≤ 512) : Calls Try.prog 8 #[.int .i64 most] w fun e w' => e = .returned (.pointer (some ⟨w.heap.size, 0, none⟩)) ∧ IsTb w' w.heap.size none 0 (tnew most) ∧ Below w.heap.size w w' := by
  have b1 : decide ((most : Int) < 0) = false := decide_eq_false (by omega)
  have b2 : decide (512 < (most : Int)) = false := decide_eq_false (by omega)
  go_enter Try.func8, Try.ntmps8
  go_wp2_with fail
  go_ret
  exact ⟨rfl, ⟨heap_alloc_new w _, World.ownsRow_nil _ _ _ _, tnew_ok most, by simp [tnew], by simp [tnew]; omega⟩, (Below.refl _ w).alloc (Nat.le_refl _) _⟩
set_option maxHeartbeats 400000 in
theorem size_any (f : Fd) (n : Nat) (w : World) (hn : f.size = n) (hb : n ≤ 1000000) : Calls Try.prog 15 #[f.agg] w fun e w' => e = .returned (.int .i64 n) ∧ Below w.heap.size w w' := by
  obtain ⟨x, hx⟩ : ∃ x, f.name.size = x := ⟨_, rfl⟩
  obtain ⟨y, hy⟩ : ∃ y, f.value.size = y := ⟨_, rfl⟩
  obtain ⟨a, b⟩ := f
  unfold Fd.size at hn
  simp only at hx hy hn
  have h1 : (x : Int) + (y : Int) + 32 = (n : Int) := by omega
  unfold Fd.agg
  simp only
  go_enter Try.func15, Try.ntmps15
  go_wp2
  go_ret
  exact ⟨ret_int (by omega), (Below.refl _ w).alloc (Nat.le_refl _) _⟩
set_option maxHeartbeats 400000 in
theorem count_any (h : IsTb w p A c t) : Calls Try.prog 11 #[.pointer (some ⟨p, 0, none⟩)] w fun e w' => e = .returned (.int .u64 t.F.length) ∧ Still w w' := by
  have c2 := wrote_cell h.cell 2 _ rfl
  have c3 := wrote_cell h.cell 3 _ rfl
  have hl := t.len_add h.ok
  have hs := h.small
  obtain ⟨g, hg⟩ : ∃ g, t.gone = g := ⟨_, rfl⟩
  obtain ⟨n, hn⟩ : ∃ n, t.l.length = n := ⟨_, rfl⟩
  obtain ⟨m, hm⟩ : ∃ m, t.F.length = m := ⟨_, rfl⟩
  rw [hg] at c2
  rw [hn] at c3
  rw [hm] at hs ⊢
  have e1 : (g : Int) + (n : Int) = (m : Int) := by omega
  have hnb : n ≤ 1000000 := by omega
  have hgb : g ≤ 1000000 := by omega
  clear h hl hg hn hm
  go_enter Try.func11, Try.ntmps11
  go_wp2_with fail
  go_big_quiet (fail)
  go_wp2_with fail
  go_ret
  exact ⟨rfl, Still.drewN _ _⟩
set_option maxHeartbeats 400000 in
theorem used_any (h : IsTb w p A c t) : Calls Try.prog 13 #[.pointer (some ⟨p, 0, none⟩)] w fun e w' => e = .returned (.int .i64 t.used) ∧ w = w' := by
  have c1 := wrote_cell h.cell 1 _ rfl
  go_enter Try.func13, Try.ntmps13
  go_wp2
  go_ret
  exact ⟨rfl, rfl⟩
end
end Go.Proofs.Ytgcnhppafclnmaa
