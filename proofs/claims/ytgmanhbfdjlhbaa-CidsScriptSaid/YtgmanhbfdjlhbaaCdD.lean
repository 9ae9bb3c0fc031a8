/- cids: For, Retired. -/
import Derived.Test.YtgmanhbfdjlhbaaCdC
import Derived.Test.YtgmanhbfdjlhbaaClone
import Derived.Laws.OwnMore
namespace Go.Proofs.Ytgmanhbfdjlhbaa
open Go.RowKit

section
variable {α : Type} (c : α → List Value) {s : Nat}
/-- One cell of one record is set. -/
theorem rv_set1 (hc : ∀ x, (c x).length = s) : ∀ (l : List α) (k j : Nat) (v : Value) (x y : α), l[k]? = some x → j < s → c y = (c x).set j v → (rv c l).set (k * s + j) v = rv c (l.set k y)
  | x0 :: l, 0, j, v, x, y, h, hj, hy => by
    simp at h; subst h
    rw [Nat.zero_mul, Nat.zero_add, List.set_cons_zero, rv, rv, List.set_append_left _ _ (by rw [hc]; exact hj), hy]
  | x0 :: l, k + 1, j, v, x, y, h, hj, hy => by
    have ih := rv_set1 hc l k j v x y (by simpa using h) hj hy
    rw [List.set_cons_succ, rv, rv, List.set_append_right _ _ (by rw [hc, Nat.succ_mul]; omega), hc, show (k + 1) * s + j - s = k * s + j by rw [Nat.succ_mul]; omega, ih]
end

def nxp (n : Nx) (q : Int) : Nx := ⟨{ n.x with path := q }, n.A, n.c⟩
def nxt (n : Nx) : Nx := ⟨{ n.x with told := true }, n.A, n.c⟩
theorem nxp_cells (n : Nx) (q : Int) : (nxp n q).cells = n.cells.set 10 (.int .i64 q) := by
  obtain ⟨x0, x1, x2, x3, x4, x5, x6, x7, h⟩ := list8 (pad8 n.x.id) (pad8_len _)
  unfold Nx.cells nxp
  simp only
  rw [h]; rfl
theorem nxt_cells (n : Nx) : (nxt n).cells = n.cells.set 11 (.bool true) := by
  obtain ⟨x0, x1, x2, x3, x4, x5, x6, x7, h⟩ := list8 (pad8 n.x.id) (pad8_len _)
  unfold Nx.cells nxt
  simp only
  rw [h]; rfl
section
variable {w w' : World} {p : Nat} {A : Option Addr} {c : Nat} {l : List Nx} {use : Int}
theorem IsCd.at (h : IsCd w p A c l use) : A = none ∨ ∃ g, A = some ⟨g, 0, none⟩ ∧ p ≠ g ∧ g < w.heap.size := by
  rcases ownS_cases h.row with ⟨h1, _⟩ | ⟨g, h1, _, h3, _⟩
  · exact .inl h1
  · subst h1
    exact .inr ⟨g, rfl, own_typed h.row h.cell rfl, h3⟩
theorem IsCd.blk (h : IsCd w p A c l use) (hl : 0 < l.length) : ∃ g, A = some ⟨g, 0, none⟩ ∧ p ≠ g ∧ g < w.heap.size := by
  rcases ownS_cases h.row with ⟨_, h1, _⟩ | ⟨g, h1, _, h3, _⟩
  · omega
  · subst h1
    exact ⟨g, rfl, own_typed h.row h.cell rfl, h3⟩
theorem IsCd.on_lt (h : IsCd w p A c l use) : ∀ k, OnC p A l k → k < w.heap.size := by
  rintro k (rfl | ⟨a, ha, rfl⟩ | ⟨n, hn, a, ha, rfl⟩)
  · exact h.lt
  · rcases h.at with h1 | ⟨g, h1, _, h3⟩
    · rw [h1] at ha; cases ha
    · rw [h1] at ha; injection ha with ha; subst ha; exact h3
  · exact (h.far n hn a ha).1
/-- Another row of the same names' tokens, in the same block; another path in use. -/
theorem IsCd.turn (h : IsCd w p A c l use) {l' : List Nx} {use' : Int} (F : Fr (OnB p A) w w') (hc : w'.heap[p]? = some (.cells #[.slice A l'.length c, .int .i64 use'] 60 (0, 0)))
    (hr : w'.ownsRow 0 57 12 (.slice A l'.length c) l'.length (nxv l')) (hl : l'.length = l.length)
    (hs : ∀ n ∈ l', ∃ m ∈ l, n.A = m.A ∧ n.c = m.c ∧ n.x.tok = m.x.tok ∧ n.x.id = m.x.id) : IsCd w' p A c l' use' := by
  refine ⟨hc, hr, fun n hn => ?_, fun n hn => ?_, by rw [hl]; exact h.small, fun n hn a ha => ?_⟩
  · obtain ⟨m, hm, e1, e2, e3, e4⟩ := hs n hn
    rw [e1, e2, e3]
    refine ⟨(h.tok m hm).1.fr F (fun _ a ha hk => ?_), (h.tok m hm).2⟩
    have h1 := (h.far m hm a ha).2
    rcases hk with hk | ⟨b, hb, hk⟩
    · exact h1.1 hk
    · exact h1.2 b hb hk.symm
  · obtain ⟨m, hm, e1, e2, e3, e4⟩ := hs n hn
    rw [e4]; exact h.ids m hm
  · obtain ⟨m, hm, e1, e2, e3, e4⟩ := hs n hn
    rw [e1] at ha
    exact ⟨Nat.lt_of_lt_of_le (h.far m hm a ha).1 F.size, (h.far m hm a ha).2⟩
theorem set_mem {l : List Nx} {k : Nat} (hk : k < l.length) (y : Nx) : ∀ n ∈ l.set k y, n = y ∨ n ∈ l := fun n hn => by
  rcases List.mem_or_eq_of_mem_set hn with h | h
  · exact .inr h
  · exact .inl h
/-- A path gets a name. -/
theorem IsCd.setp {g : Nat} (h : IsCd w p (some ⟨g, 0, none⟩) c l use) {k : Nat} (hk : k < l.length) (q : Int) :
    IsCd ((w.setCell ⟨g, k * 12 + 10, none⟩ (.int .i64 q)).setCell ⟨p, 1, none⟩ (.int .i64 q)) p (some ⟨g, 0, none⟩) c (l.set k (nxp l[k] q)) q ∧
      Fr (OnB p (some ⟨g, 0, none⟩)) w ((w.setCell ⟨g, k * 12 + 10, none⟩ (.int .i64 q)).setCell ⟨p, 1, none⟩ (.int .i64 q)) := by
  have hpg : p ≠ g := own_typed h.row h.cell rfl
  have F1 : Fr (fun j => j = g) w (w.setCell ⟨g, k * 12 + 10, none⟩ (.int .i64 q)) := (Fr.refl (fun j => j = g) w).setCell (p := ⟨g, k * 12 + 10, none⟩) (fun _ => rfl) _
  have F2 : Fr (fun j => j = p) (w.setCell ⟨g, k * 12 + 10, none⟩ (.int .i64 q)) ((w.setCell ⟨g, k * 12 + 10, none⟩ (.int .i64 q)).setCell ⟨p, 1, none⟩ (.int .i64 q)) := (Fr.refl (fun j => j = p) _).setCell (p := ⟨p, 1, none⟩) (fun _ => rfl) _
  have F : Fr (OnB p (some ⟨g, 0, none⟩)) w ((w.setCell ⟨g, k * 12 + 10, none⟩ (.int .i64 q)).setCell ⟨p, 1, none⟩ (.int .i64 q)) := (F1.mono (fun j hj _ => .inr ⟨_, rfl, hj.symm⟩)).trans (F2.mono (fun j hj _ => .inl hj))
  have o1 := (h.row.stored (k * 12 + 10) (.int .i64 q)).1
  rw [rv_set1 Nx.cells nxc l k 10 _ l[k] (nxp l[k] q) (List.getElem?_eq_getElem hk) (by omega) (nxp_cells _ _)] at o1
  have hl : (l.set k (nxp l[k] q)).length = l.length := List.length_set
  refine ⟨h.turn F ?_ ?_ hl (fun n hn => ?_), F⟩
  · rw [hl]
    exact heap_setCell_same _ p 1 _ _ (.int .i64 q) (heap_fr h.cell F1 hpg)
  · rw [hl]
    exact own_fr o1 F2 (fun j hj e => by injection hj with hj; subst hj; exact hpg e.symm)
  · rcases set_mem hk _ n hn with e | e
    · rw [e]; exact ⟨l[k], List.getElem_mem hk, rfl, rfl, rfl, rfl⟩
    · exact ⟨n, e, rfl, rfl, rfl, rfl⟩
/-- A name is told. -/
theorem IsCd.sett {g : Nat} (h : IsCd w p (some ⟨g, 0, none⟩) c l use) {k : Nat} (hk : k < l.length) :
    IsCd (w.setCell ⟨g, k * 12 + 11, none⟩ (.bool true)) p (some ⟨g, 0, none⟩) c (l.set k (nxt l[k])) use ∧
      Fr (OnB p (some ⟨g, 0, none⟩)) w (w.setCell ⟨g, k * 12 + 11, none⟩ (.bool true)) := by
  have hpg : p ≠ g := own_typed h.row h.cell rfl
  have F1 : Fr (fun j => j = g) w (w.setCell ⟨g, k * 12 + 11, none⟩ (.bool true)) := (Fr.refl (fun j => j = g) w).setCell (p := ⟨g, k * 12 + 11, none⟩) (fun _ => rfl) _
  have F : Fr (OnB p (some ⟨g, 0, none⟩)) w (w.setCell ⟨g, k * 12 + 11, none⟩ (.bool true)) := F1.mono (fun j hj _ => .inr ⟨_, rfl, hj.symm⟩)
  have o1 := (h.row.stored (k * 12 + 11) (.bool true)).1
  rw [rv_set1 Nx.cells nxc l k 11 _ l[k] (nxt l[k]) (List.getElem?_eq_getElem hk) (by omega) (nxt_cells _)] at o1
  have hl : (l.set k (nxt l[k])).length = l.length := List.length_set
  refine ⟨h.turn F ?_ ?_ hl (fun n hn => ?_), F⟩
  · rw [hl]
    exact heap_fr h.cell F1 hpg
  · rw [hl]; exact o1
  · rcases set_mem hk _ n hn with e | e
    · rw [e]; exact ⟨l[k], List.getElem_mem hk, rfl, rfl, rfl, rfl⟩
    · exact ⟨n, e, rfl, rfl, rfl, rfl⟩
/-- A name's bytes in memory. -/
theorem IsCd.idrd (h : IsCd w p A c l use) {k : Nat} (hk : k < l.length) : ∃ b off, A = some ⟨b, off, none⟩ ∧ Rd w (some ⟨b, off + k * 12 + 1, none⟩) (bv (l[k]).x.id) := by
  obtain ⟨b, off, e, hc⟩ := rv_cell Nx.cells nxc (by omega) h.rd hk
  refine ⟨b, off, e, fun _ => ⟨b, off + k * 12 + 1, rfl, fun j u hu => ?_⟩⟩
  have hj : j < 8 := by
    have := (List.getElem?_eq_some_iff.1 hu).1
    rw [bv_length, h.ids _ (List.getElem_mem hk)] at this; exact this
  rw [show off + k * 12 + 1 + j = off + k * 12 + (j + 1) by omega]
  refine hc _ _ ?_
  unfold Nx.cells
  rw [List.getElem?_cons_succ, pad8_id (h.ids _ (List.getElem_mem hk)), List.getElem?_append_left (by rw [bv_length, h.ids _ (List.getElem_mem hk)]; exact hj)]
  exact hu
/-- Where the name for a path is: its own, else the first free one. -/
def cat (l : List Nx) (q : Int) : Int := if fidx (fun n => decide (n.x.path = q)) l < 0 then fidx (fun n => n.x.free) l else fidx (fun n => decide (n.x.path = q)) l
theorem cat_cases (l : List Nx) (q : Int) : cat l q = -1 ∨ ∃ k : Nat, cat l q = k ∧ k < l.length := by
  have one : ∀ r : Nx → Bool, fidx r l = -1 ∨ ∃ k : Nat, fidx r l = k ∧ k < l.length := fun r => by
    unfold fidx
    rcases h : l.findIdx? r with _ | k
    · exact .inl rfl
    · exact .inr ⟨k, rfl, (List.findIdx?_eq_some_iff_getElem.1 h).1⟩
  unfold cat
  split
  · exact one _
  · exact one _
end
end Go.Proofs.Ytgmanhbfdjlhbaa
