/- The document's Flight: what it holds; Under, Age, Sent. -/
import Derived.Test.YtifigmhecgbfoaaFlK
import Derived.Test.YtifigmhecgbfoaaRec
namespace Go.Proofs.Ytifigmhecgbfoaa
open Go.RowKit

theorem infoR : (Try.prog.info? 68).map (fun i => (i.zero, i.size, i.bytes)) = some (some (.agg #[.int .u64 0, .int .i64 0, .bool false, .bool false]), 4, 24) := by kernel_rfl
/-- A packet in the document's list. -/
structure Pr where
  num : Nat
  tick : Nat
  cnt : Bool
  un : Bool
deriving DecidableEq
def Pr.pk (x : Pr) : Pk := ⟨x.num, x.tick, x.cnt⟩
def Pr.cells (x : Pr) : List Value := [.int .u64 x.num, .int .i64 x.tick, .bool x.cnt, .bool x.un]
def Pr.ok (x : Pr) : Prop := x.num ≤ 4611686018427387903 ∧ x.tick ≤ 9223372036854775807
theorem Pr.len (x : Pr) : x.cells.length = 4 := rfl
theorem Pr.one (x : Pr) : ∀ u ∈ x.cells, u.oneCell' = true := by
  intro u hu
  simp only [Pr.cells, List.mem_cons, List.not_mem_nil, or_false] at hu
  rcases hu with rfl | rfl | rfl | rfl <;> rfl
/-- Those that are under way. -/
def punder (P : List Pr) : List Pk := (P.filter Pr.un).map Pr.pk

theorem rv_set1 {α : Type} (c : α → List Value) {s : Nat} (hc : ∀ x, (c x).length = s) : ∀ (l : List α) (k : Nat) (x y : α) (j : Nat) (v : Value), l[k]? = some x → j < s → c y = (c x).set j v → (rv c l).set (k * s + j) v = rv c (l.set k y)
  | z :: l, 0, x, y, j, v, h, hj, hy => by
    simp at h; subst h
    rw [List.set_cons_zero, rv, rv, hy, Nat.zero_mul, Nat.zero_add, List.set_append_left _ _ (by rw [hc]; exact hj)]
  | z :: l, k + 1, x, y, j, v, h, hj, hy => by
    have := rv_set1 c hc l k x y j v (by simpa using h) hj hy
    rw [List.set_cons_succ, rv, rv, ← this, List.set_append_right _ _ (by rw [hc, Nat.succ_mul]; omega), hc, show (k + 1) * s + j - s = k * s + j by rw [Nat.succ_mul]; omega]

/-- Block p is the document's Flight. -/
structure IsRf (w : World) (p : Nat) (A : Option Addr) (c : Nat) (P : List Pr) (top : Nat) (heard : Bool) : Prop where
  cell : w.heap[p]? = some (.cells #[.slice A P.length c, .int .u64 top, .bool heard] 46 (0, 0))
  row : w.ownsRow 0 68 4 (.slice A P.length c) P.length (rv Pr.cells P)
  small : P.length ≤ 100000
  oks : ∀ x ∈ P, x.ok
  top : top ≤ 4611686018427387903
section
variable {w w' : World} {p : Nat} {A : Option Addr} {c top : Nat} {P : List Pr} {heard : Bool}
theorem IsRf.lt (h : IsRf w p A c P top heard) : p < w.heap.size := heap_lt h.cell
theorem IsRf.at (h : IsRf w p A c P top heard) : (A = none ∧ P = []) ∨ ∃ g, A = some ⟨g, 0, none⟩ ∧ p ≠ g ∧ g < w.heap.size ∧ P.length ≤ c ∧ c ≤ 9223372036854775807 := by
  rcases ownS_cases h.row with ⟨h1, h2, _, _⟩ | ⟨g, h1, _, h3, h4, h5⟩
  · exact .inl ⟨h1, List.eq_nil_of_length_eq_zero h2⟩
  · subst h1
    exact .inr ⟨g, rfl, own_typed h.row h.cell rfl, h3, h4, by simpa [maxLen] using h5⟩
theorem IsRf.blk (h : IsRf w p A c P top heard) {k : Nat} (hk : OnFl p A k) : k < w.heap.size := by
  rcases hk with rfl | ⟨a, ha, rfl⟩
  · exact h.lt
  · rcases h.at with ⟨h1, _⟩ | ⟨g, h1, _, h3, _⟩
    · rw [h1] at ha; cases ha
    · rw [h1] at ha; injection ha with ha; subst ha; exact h3
theorem IsRf.ne (h : IsRf w p A c P top heard) : ∀ a, A = some a → a.block ≠ p := by
  intro a ha
  rcases h.at with ⟨h1, _⟩ | ⟨g, h1, h2, _⟩
  · rw [h1] at ha; cases ha
  · rw [h1] at ha; injection ha with ha; subst ha; exact fun e => h2 e.symm
theorem own_some {n k : Nat} (hk : (Value.slice A n c).ownBlock = some k) : ∃ a, A = some a ∧ a.block = k := by
  cases A with
  | none => cases hk
  | some a => injection hk with hk; exact ⟨a, rfl, hk⟩
theorem IsRf.fr {T : Nat → Prop} (h : IsRf w p A c P top heard) (f : Fr T w w') (hT : ∀ k, OnFl p A k → ¬ T k) : IsRf w' p A c P top heard :=
  ⟨heap_fr h.cell f (hT p (.inl rfl)), own_fr h.row f (fun k hk => hT k (.inr (own_some hk))), h.small, h.oks, h.top⟩
theorem IsRf.drewN (h : IsRf w p A c P top heard) (k : Nat) : IsRf (w.drewN k) p A c P top heard := h.fr ((Fr.refl NoS w).drewN k) (fun _ _ x => x)
theorem IsRf.below (h : IsRf w p A c P top heard) (b : Below w.heap.size w w') : IsRf w' p A c P top heard := h.fr (Fr.of_below b NoS) (fun _ _ x => x)
/-- A packet's cells. -/
theorem IsRf.elt (h : IsRf w p A c P top heard) {k : Nat} (hk : k < P.length) : ∃ g, A = some ⟨g, 0, none⟩ ∧ p ≠ g ∧ g < w.heap.size ∧ P.length ≤ c ∧ c ≤ 9223372036854775807 ∧
    w.cell? ⟨g, k * 4, none⟩ = some (.int .u64 P[k].num) ∧ w.cell? ⟨g, k * 4 + 1, none⟩ = some (.int .i64 P[k].tick) ∧ w.cell? ⟨g, k * 4 + 2, none⟩ = some (.bool P[k].cnt) ∧ w.cell? ⟨g, k * 4 + 3, none⟩ = some (.bool P[k].un) := by
  rcases h.at with ⟨_, h2⟩ | ⟨g, h1, h2, h3, h4, h5⟩
  · subst h2; simp at hk
  · subst h1
    obtain ⟨b, off, e, hc⟩ := rv_cell Pr.cells Pr.len (by decide) (Rd.of_ownS h.row) hk
    injection e with e
    injection e with e1 e2
    subst e1 e2
    simp only [Nat.zero_add] at hc
    exact ⟨g, rfl, h2, h3, h4, h5, hc 0 _ rfl, hc 1 _ rfl, hc 2 _ rfl, hc 3 _ rfl⟩

/-! ### Under -/
def ucount (P : List Pr) : Nat := (P.filter Pr.un).length
theorem ucount_eq (P : List Pr) : ucount P = (punder P).length := by simp [ucount, punder]
theorem ucount_step (P : List Pr) (k : Nat) (x : Pr) (h : P[k]? = some x) : ucount (P.take (k + 1)) = ucount (P.take k) + if x.un then 1 else 0 := by
  obtain ⟨hk, e⟩ := List.getElem?_eq_some_iff.1 h
  rw [List.take_succ_eq_append_getElem hk, e, ucount, List.filter_append, List.length_append]
  cases hx : x.un <;> simp [ucount, hx]
theorem ucount_le (P : List Pr) : ucount P ≤ P.length := List.length_filter_le _ _

set_option maxRecDepth 100000 in
set_option maxHeartbeats 2000000 in
theorem runder_any (h : IsRf w p A c P top heard) (n : Nat) (hn : (punder P).length = n) : Calls Try.prog 23 #[.pointer (some ⟨p, 0, none⟩)] w fun e w' => e = .returned (.int .i64 n) ∧ w = w' := by
  have c0 := wrote_cell h.cell 0 _ rfl
  have hs := h.small
  have H := Lib.hid h
  obtain ⟨m, hm⟩ : ∃ m, P.length = m := ⟨_, rfl⟩
  rw [hm] at c0 hs
  replace hm := Lib.hid hm
  have HU : Hid (ucount (P.take m) = n) := Lib.hid (by rw [← hm.out, List.take_length, ucount_eq, hn])
  clear h hn
  go_enter Try.func23, Try.ntmps23
  go_wp2_with fail
  go_loop [3, 4] (fun s i => ∃ k u : Nat, k ≤ m ∧ u ≤ k ∧ i = .int .i64 k ∧ s = .int .i64 u ∧ Hid (ucount (P.take k) = u)) (fun _ i => m - (intOf i).toNat)
  case atStart => exact ⟨0, 0, by omega, by omega, rfl, rfl, Lib.hid (by simp [ucount])⟩
  case round =>
    obtain ⟨k, u, hk, hu, rfl, rfl, HK⟩ := hrel
    by_cases hkm : k < m
    · rename_i aa; clear aa
      obtain ⟨g, rfl, _, _, hc1, hc2, _, _, _, g1⟩ := H.out.elt (k := k) (by rw [hm.out]; exact hkm)
      have hst := ucount_step P k _ (List.getElem?_eq_getElem (by rw [hm.out]; exact hkm))
      obtain ⟨v, hv⟩ : ∃ v, (P[k]'(by rw [hm.out]; exact hkm)).un = v := ⟨_, rfl⟩
      rw [hv] at g1 hst
      rw [HK.out] at hst
      clear hv HK
      cases v with
      | true =>
        replace hst := Lib.hid hst
        go_wp2_with fail
        go_round
        case rel => exact ⟨k + 1, u + 1, by omega, by omega, by go_num, by go_num, hst⟩
        case measure => simp [intOf]; omega
      | false =>
        replace hst := Lib.hid hst
        go_wp2_with fail
        go_round
        case rel => exact ⟨k + 1, u, by omega, by omega, by go_num, rfl, hst⟩
        case measure => simp [intOf]; omega
    · obtain rfl : k = m := by omega
      obtain rfl : u = n := by rw [← HK.out, HU.out]
      clear HK HU
      go_wp2_with fail
      go_ret
      exact ⟨rfl, rfl⟩

/-! ### Age -/
def page (P : List Pr) (n : Nat) : Option Nat := ((punder P).find? fun x => decide (x.num = n)).map Pk.tick
theorem page_eq (P : List Pr) (n : Nat) : page P n = (P.find? fun x => decide (x.num = n) && x.un).map Pr.tick := by
  unfold page punder
  induction P with
  | nil => rfl
  | cons x P ih =>
    cases hu : x.un
    · rw [List.filter_cons_of_neg (by simp [hu]), ih, List.find?_cons_of_neg (by simp [hu])]
    · rw [List.filter_cons_of_pos hu, List.map_cons]
      by_cases hn : x.num = n
      · rw [List.find?_cons_of_pos (by simp [Pr.pk, hn]), List.find?_cons_of_pos (by simp [hn, hu])]; rfl
      · rw [List.find?_cons_of_neg (by simp [Pr.pk, hn]), List.find?_cons_of_neg (by simp [hn]), ih]
theorem page_hit (P : List Pr) (n k : Nat) (x : Pr) (h : P[k]? = some x) (h1 : x.num = n) (h2 : x.un = true) (hb : ∀ j, j < k → ∀ y, P[j]? = some y → (decide (y.num = n) && y.un) = false) : page P n = some x.tick := by
  have : (P.find? fun x => decide (x.num = n) && x.un) = some x := by
    obtain ⟨hk, e⟩ := List.getElem?_eq_some_iff.1 h
    rw [List.find?_eq_some_iff_getElem]
    refine ⟨by simp [h1, h2], k, hk, e, fun j hj => ?_⟩
    have := hb j hj _ (List.getElem?_eq_getElem (by omega))
    simp only [this, Bool.not_false]
  rw [page_eq, this]; rfl
theorem page_miss (P : List Pr) (n : Nat) (hb : ∀ j, j < P.length → ∀ y, P[j]? = some y → (decide (y.num = n) && y.un) = false) : page P n = none := by
  have : (P.find? fun x => decide (x.num = n) && x.un) = none := by
    rw [List.find?_eq_none]
    intro x hx
    obtain ⟨j, hj, rfl⟩ := List.getElem_of_mem hx
    rw [hb j hj _ (List.getElem?_eq_getElem hj)]
    simp
  rw [page_eq, this]; rfl

set_option maxRecDepth 100000 in
set_option maxHeartbeats 2000000 in
theorem rage_any (h : IsRf w p A c P top heard) (num t : Nat) (b : Bool) (ht : (page P num).getD 0 = t) (hb : (page P num).isSome = b) :
    Calls Try.prog 22 #[.pointer (some ⟨p, 0, none⟩), .int .u64 num] w fun e w' => e = .returned (.tuple #[.int .i64 t, .bool b]) ∧ w = w' := by
  have c0 := wrote_cell h.cell 0 _ rfl
  have hs := h.small
  have H := Lib.hid h
  obtain ⟨m, hm⟩ : ∃ m, P.length = m := ⟨_, rfl⟩
  rw [hm] at c0 hs
  replace hm := Lib.hid hm
  replace ht := Lib.hid ht
  replace hb := Lib.hid hb
  obtain ⟨N, hN⟩ : ∃ N : Int, (num : Int) = N := ⟨_, rfl⟩
  rw [hN]
  replace hN := Lib.hid hN
  clear h
  go_enter Try.func22, Try.ntmps22
  go_wp2_with fail
  go_loop [6] (fun i => ∃ k : Nat, k ≤ m ∧ i = .int .i64 k ∧ Hid (∀ j, j < k → ∀ y, P[j]? = some y → (decide (y.num = num) && y.un) = false)) (fun i => m - (intOf i).toNat)
  case atStart => exact ⟨0, by omega, rfl, Lib.hid (fun j hj => by omega)⟩
  case round =>
    obtain ⟨k, hk, rfl, HK⟩ := hrel
    by_cases hkm : k < m
    · have hkl : k < P.length := by rw [hm.out]; exact hkm
      obtain ⟨g, rfl, _, _, hc1, hc2, g0, g1, _, g3⟩ := H.out.elt hkl
      obtain ⟨x, hx⟩ : ∃ x, P[k] = x := ⟨_, rfl⟩
      have hxk : Hid (P[k]? = some x) := Lib.hid (by rw [List.getElem?_eq_getElem hkl, hx])
      rw [hx] at g0 g1 g3
      clear hx
      obtain ⟨X, hX⟩ : ∃ X : Int, (x.num : Int) = X := ⟨_, rfl⟩
      rw [hX] at g0
      obtain ⟨v, hv⟩ : ∃ v, x.un = v := ⟨_, rfl⟩
      rw [hv] at g3
      have next : Hid ((decide (x.num = num) && x.un) = false → ∀ j, j < k + 1 → ∀ y, P[j]? = some y → (decide (y.num = num) && y.un) = false) := Lib.hid (fun h j hj y hy => by
        by_cases e : j = k
        · subst e; rw [hxk.out] at hy; injection hy with hy; subst hy; exact h
        · exact HK.out j (by omega) y hy)
      by_cases he : X = N
      · have e1 : (X == N) = true := beq_iff_eq.2 he
        have hnn : x.num = num := by have := hN.out; omega
        replace he := Lib.hid he
        cases v with
        | true =>
          have hp : Hid (page P num = some x.tick) := Lib.hid (page_hit P num k x hxk.out hnn hv HK.out)
          replace hv := Lib.hid hv
          replace hnn := Lib.hid hnn
          obtain rfl : x.tick = t := by rw [← ht.out, hp.out]; rfl
          obtain rfl : b = true := by rw [← hb.out, hp.out]; rfl
          replace hX := Lib.hid hX
          clear ht hb
          go_wp2_with fail
          go_ret2
          exact ⟨rfl, rfl⟩
        | false =>
          rename_i aa; clear aa
          have HK2 := Lib.hid (next.out (by rw [hv]; simp))
          replace hv := Lib.hid hv
          replace hnn := Lib.hid hnn
          replace hX := Lib.hid hX
          clear HK
          go_wp2_with fail
          go_round
          case rel => exact ⟨k + 1, by omega, by go_num, HK2⟩
          case measure => simp [intOf]; omega
      · rename_i aa; clear aa
        have e1 : (X == N) = false := beq_eq_false_iff_ne.2 he
        have HK2 := Lib.hid (next.out (by rw [decide_eq_false (by have := hN.out; omega)]; rfl))
        replace he := Lib.hid he
        replace hv := Lib.hid hv
        replace hX := Lib.hid hX
        clear HK
        go_wp2_with fail
        go_round
        case rel => exact ⟨k + 1, by omega, by go_num, HK2⟩
        case measure => simp [intOf]; omega
    · have hp : Hid (page P num = none) := Lib.hid (page_miss P num (fun j hj => HK.out j (by have := hm.out; omega)))
      obtain rfl : t = 0 := by rw [← ht.out, hp.out]; rfl
      obtain rfl : b = false := by rw [← hb.out, hp.out]; rfl
      clear ht hb HK
      go_wp2_with fail
      go_ret2
      exact ⟨rfl, rfl⟩
end
end Go.Proofs.Ytifigmhecgbfoaa
