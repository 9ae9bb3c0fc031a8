/- cids: the pool's block, its row of names, their tokens' blocks. -/
import Derived.Test.YtgmanhbfdjlhbaaRec
import Derived.Test.YtgmanhbfdjlhbaaCdS
namespace Go.Proofs.Ytgmanhbfdjlhbaa
open Go.RowKit

/-- A name, and where its token lies. -/
structure Nx where
  x : Nm
  A : Option Addr
  c : Nat
def pad8 (l : List UInt8) : List UInt8 := (l ++ List.replicate 8 0).take 8
theorem pad8_len (l : List UInt8) : (pad8 l).length = 8 := by unfold pad8; simp
theorem pad8_id {l : List UInt8} (h : l.length = 8) : pad8 l = l := by
  unfold pad8; rw [← h, List.take_left]
def Nx.cells (n : Nx) : List Value := .int .u64 (n.x.seq : Int) :: (bv (pad8 n.x.id) ++ [.slice n.A n.x.tok.length n.c, .int .i64 n.x.path, .bool n.x.told])
theorem nxc (n : Nx) : n.cells.length = 12 := by unfold Nx.cells; simp [pad8_len]
theorem nxo (n : Nx) : ∀ u ∈ n.cells, u.oneCell' = true := by
  intro u hu
  unfold Nx.cells at hu
  rcases List.mem_cons.1 hu with rfl | hu
  · rfl
  · rcases List.mem_append.1 hu with hu | hu
    · exact bv_one _ u hu
    · simp at hu; rcases hu with rfl | rfl | rfl <;> rfl
abbrev nxv (l : List Nx) : List Value := rv Nx.cells l
theorem nxv_len (l : List Nx) : (nxv l).length = l.length * 12 := rv_length Nx.cells nxc l
/-- The pool: its block p, its row; a name's token lies elsewhere, and is read only. -/
structure IsCd (w : World) (p : Nat) (A : Option Addr) (c : Nat) (l : List Nx) (use : Int) : Prop where
  cell : w.heap[p]? = some (.cells #[.slice A l.length c, .int .i64 use] 60 (0, 0))
  row : w.ownsRow 0 57 12 (.slice A l.length c) l.length (nxv l)
  tok : ∀ n ∈ l, Rd w n.A (bv n.x.tok) ∧ n.x.tok.length ≤ n.c ∧ n.c ≤ 9223372036854775807
  ids : ∀ n ∈ l, n.x.id.length = 8
  small : l.length ≤ 100
  far : ∀ n ∈ l, ∀ a, n.A = some a → a.block < w.heap.size ∧ a.block ≠ p ∧ ∀ b, A = some b → a.block ≠ b.block
/-- The pool's blocks: its own, its row's, its tokens'. -/
def OnC (p : Nat) (A : Option Addr) (l : List Nx) (k : Nat) : Prop := k = p ∨ (∃ a, A = some a ∧ a.block = k) ∨ ∃ n ∈ l, ∃ a, n.A = some a ∧ a.block = k
theorem IsCd.fr {w w' : World} {p : Nat} {A : Option Addr} {c : Nat} {l : List Nx} {use : Int} (h : IsCd w p A c l use) {S : Nat → Prop} (F : Fr S w w') (hS : ∀ k, OnC p A l k → ¬ S k) : IsCd w' p A c l use :=
  ⟨heap_fr h.cell F (hS p (.inl rfl)), own_fr h.row F (fun k hk => hS k (.inr (.inl (by
    cases A with
    | none => cases hk
    | some a => injection hk with hk; exact ⟨a, rfl, hk⟩)))), fun n hn => ⟨(h.tok n hn).1.fr F (fun _ a ha => hS _ (.inr (.inr ⟨n, hn, a, ha, rfl⟩))), (h.tok n hn).2⟩, h.ids, h.small, fun n hn a ha => ⟨Nat.lt_of_lt_of_le (h.far n hn a ha).1 F.size, (h.far n hn a ha).2⟩⟩
end Go.Proofs.Ytgmanhbfdjlhbaa
