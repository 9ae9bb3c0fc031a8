/- income: an In that a law holds: the contracts once more, its two rows out of sight. -/
import Derived.Test.YtlaomllgjiochaaIncH
import Derived.Test.YtlaomllgjiochaaStill
namespace Go.Proofs.Ytlaomllgjiochaa
open Go.RowKit

/-- Block p is an In that holds s; all its blocks lie from p on, below N; below B nothing has turned since w0. -/
structure IncAt (B N : Nat) (w0 w : World) (p : Nat) (s : Inc) : Prop where
  ex : ∃ vD vC, IsInc w p vD vC s ∧ ∀ k, IncS p vD vC k → k < N
  le : B ≤ p
  bel : Below B w0 w
def InB (p N k : Nat) : Prop := p ≤ k ∧ k < N

section
variable {B N p : Nat} {w0 w w' : World} {s : Inc}
theorem IncAt.ok (h : IncAt B N w0 w p s) : s.Ok := by obtain ⟨_, _, h, _⟩ := h.ex; exact h.ok
theorem IncAt.lt (h : IncAt B N w0 w p s) : p < w.heap.size := by obtain ⟨_, _, h, _⟩ := h.ex; exact heap_lt h.cell
theorem IncAt.step {S : Nat → Prop} (h : IncAt B N w0 w p s) (f : Fr S w w') (hS : ∀ k, p ≤ k → k < N → ¬ S k) (hB : ∀ k, S k → k < w.heap.size → B ≤ k) : IncAt B N w0 w' p s := by
  obtain ⟨vD, vC, hI, hN⟩ := h.ex
  have hlt := h.lt
  have hle := h.le
  exact ⟨⟨vD, vC, hI.fr f (fun k hk => hS k (hI.ge hk).1 (hN k hk)), hN⟩, h.le, Fr.under h.bel (by omega) f hB⟩
theorem IncAt.alloc (h : IncAt B N w0 w p s) (o : Obj) : IncAt B N w0 (w.alloc o) p s := h.step ((Fr.refl NoS w).alloc o) (fun _ _ _ x => x) (fun _ x => x.elim)
theorem IncAt.drewN (h : IncAt B N w0 w p s) (n : Nat) : IncAt B N w0 (w.drewN n) p s := h.step ((Fr.refl NoS w).drewN n) (fun _ _ _ x => x) (fun _ x => x.elim)
theorem IncAt.drew (h : IncAt B N w0 w p s) : IncAt B N w0 w.drew p s := h.step ((Fr.refl NoS w).drew) (fun _ _ _ x => x) (fun _ x => x.elim)
theorem IncAt.below (h : IncAt B N w0 w p s) (f : Below w.heap.size w w') : IncAt B N w0 w' p s := h.step (Fr.of_below f NoS) (fun _ _ _ x => x) (fun _ x => x.elim)
theorem IncAt.more {M : Nat} (h : IncAt B N w0 w p s) (hM : N ≤ M) : IncAt B M w0 w p s := by
  obtain ⟨vD, vC, hI, hN⟩ := h.ex
  exact ⟨⟨vD, vC, hI, fun k hk => Nat.lt_of_lt_of_le (hN k hk) hM⟩, h.le, h.bel⟩

theorem IncAt.still (h : IncAt B N w0 w p s) (q : Still w w') : IncAt B N w0 w' p s := h.step (q.fr NoS) (fun _ _ _ x => x) (fun _ x => x.elim)
/-- .. all its blocks are there. -/
theorem IncAt.stillS (h : IncAt B w.heap.size w0 w p s) (q : Still w w') : IncAt B w'.heap.size w0 w' p s := by rw [q.size]; exact h.still q
theorem IncAt.allocS (h : IncAt B w.heap.size w0 w p s) (o : Obj) : IncAt B (w.alloc o).heap.size w0 (w.alloc o) p s := (h.alloc o).more (by simp)
theorem IncAt.drewS (h : IncAt B w.heap.size w0 w p s) : IncAt B w.drew.heap.size w0 w.drew p s := h.drew
theorem IncAt.nle (h : IncAt B (p + 1) w0 w p s) : p + 1 ≤ w.heap.size := h.lt
theorem IncAt.here (h : IncAt B (p + 1) w0 w p s) : IncAt B w.heap.size w0 w p s := h.more h.nle

theorem new_at (B : Nat) (w0 w : World) (m : Int) (hb : Below B w0 w) (hB : B ≤ w.heap.size) (h0 : 0 ≤ m) (h1 : m ≤ 1048576) :
    Calls Try.prog 9 #[.int .i64 m] w fun e w' => e = .returned (.pointer (some ⟨w.heap.size, 0, none⟩)) ∧ IncAt B (w.heap.size + 1) w0 w' w.heap.size (inew m) ∧ Below w.heap.size w w' :=
  (inew_any m w h0 h1).mono fun e w' ⟨he, hI, hf⟩ => ⟨he, ⟨⟨_, _, hI, fun k hk => by
    rcases hk with rfl | hk | hk
    · omega
    · simp [Value.ownBlock] at hk
    · simp [Value.ownBlock] at hk⟩, hB, hb.trans (hf.mono hB)⟩, hf⟩

theorem put_at (s' : Inc) (n : Int) (cc : Nat) (off : Int) (A : Option Addr) (l : List UInt8) (e : Bool) (h : IncAt B N w0 w p s) (hr : Rd w A (bv l)) (hA : 0 < l.length → ∀ a, A = some a → a.block < p ∨ N ≤ a.block)
    (hl : l.length ≤ 140737488355328) (ho : off ≤ 9223372036854775807) (hs : iputs s off l e = s') (hn : iputr s off l e = n) :
    Calls Try.prog 10 #[.pointer (some ⟨p, 0, none⟩), .int .i64 off, .slice A l.length cc, .bool e] w fun r w' => r = .returned (.int .i64 n) ∧ IncAt B w'.heap.size w0 w' p s' ∧ Fr (InB p N) w w' := by
  obtain ⟨vD, vC, hI, hN⟩ := h.ex
  subst hs hn
  have hle := h.le
  have hlt := h.lt
  refine (iput_any p cc vD vC s off A l e w hI hr (fun hl a ha hk => ?_) hl ho).mono ?_
  · have h1 := hI.ge hk
    have h2 := hN _ hk
    rcases hA hl a ha with h3 | h3 <;> omega
  · rintro r w' ⟨vD2, vC2, rfl, hI2, hF, hN2⟩
    have hF2 : Fr (InB p N) w w' := hF.mono (fun k hk _ => ⟨(hI.ge hk).1, hN k hk⟩)
    exact ⟨rfl, ⟨⟨vD2, vC2, hI2, fun k hk => (hI2.ge hk).2⟩, h.le, Fr.under h.bel (by omega) hF2 (fun k hk _ => by have := hk.1; omega)⟩, hF2⟩
theorem readable_at (h : IncAt B N w0 w p s) :
    Calls Try.prog 19 #[.pointer (some ⟨p, 0, none⟩)] w fun e w' => e = .returned (.int .i64 (irdb s)) ∧ Still w w' := by
  obtain ⟨vD, vC, hI, _⟩ := h.ex
  exact still_of (irdb_any p vD vC s w hI)
theorem whole_at (h : IncAt B N w0 w p s) :
    Calls Try.prog 23 #[.pointer (some ⟨p, 0, none⟩)] w fun e w' => e = .returned (.bool (iwhole s)) ∧ Still w w' := by
  obtain ⟨vD, vC, hI, _⟩ := h.ex
  exact still_of (iwhole_any p vD vC s w hI)
theorem ended_at (h : IncAt B N w0 w p s) :
    Calls Try.prog 14 #[.pointer (some ⟨p, 0, none⟩)] w fun e w' => e = .returned (.bool (iended s)) ∧ Still w w' := by
  obtain ⟨vD, vC, hI, _⟩ := h.ex
  exact still_of (iended_any p vD vC s w hI)
theorem high_at (h : IncAt B N w0 w p s) :
    Calls Try.prog 21 #[.pointer (some ⟨p, 0, none⟩)] w fun e w' => e = .returned (.int .i64 s.hi) ∧ Still w w' := by
  obtain ⟨vD, vC, hI, _⟩ := h.ex
  exact still_of0 (ihigh_any p vD vC s w hI)
theorem read_at (x : Int) (h : IncAt B N w0 w p s) (hp : p < N) :
    Calls Try.prog 12 #[.pointer (some ⟨p, 0, none⟩), .int .i64 x] w fun e w' =>
      ∃ A c', e = .returned (.slice A (ireadn s x) c') ∧ w'.ownsRow w.heap.size 5 1 (.slice A (ireadn s x) c') (ireadn s x) (bv (ibytes s (ireadn s x))) ∧
        IncAt B N w0 w' p (iread s x) ∧ Fr (· = p) w w' := by
  obtain ⟨vD, vC, hI, hN⟩ := h.ex
  have hle := h.le
  have hlt := h.lt
  refine (iread_any p vD vC s x w hI).mono ?_
  rintro e w' ⟨A, c', he, ho, hI2, hF⟩
  exact ⟨A, c', he, ho, ⟨⟨vD, vC, hI2, hN⟩, h.le, Fr.under h.bel (by omega) hF (fun k hk _ => by subst hk; exact hle)⟩, hF⟩
end
end Go.Proofs.Ytlaomllgjiochaa
