/- The program's Out and the document's beside one another: what each call leaves of the two. -/
import Derived.Test.YtljpboikjhckiaaOrE
import Derived.Test.YtljpboikjhckiaaOutG
import Derived.Test.YtljpboikjhckiaaOver
namespace Go.Proofs.Ytljpboikjhckiaa
open Go.RowKit

/-- The program's Out (at p, g, AD) holds S, the document's (at q, h, BD) holds S2, of the same bytes D; their blocks are apart, and lie from B on; below B nothing turned since w0. -/
structure OrSt (B : Nat) (w0 w : World) (p g n : Nat) (AD : Option Addr) (cD q h : Nat) (BD : Option Addr) (cB : Nat) (D S S2 : List UInt8) : Prop where
  o : IsOut w p g n AD cD D S
  r : IsRo w q h n BD cB D S2
  ph : p ≠ h
  qg : q ≠ g
  gh : g ≠ h
  dA : ∀ a, AD = some a → a.block ≠ h
  dB : ∀ a, BD = some a → a.block ≠ g
  lA : ∀ a, AD = some a → a.block < w.heap.size
  Bg : B ≤ g
  Bh : B ≤ h
  bel : Below B w0 w
section
variable {B p g n cD q h cB : Nat} {w0 w w' : World} {AD BD : Option Addr} {D S S2 S' : List UInt8}
theorem OrSt.lts (s : OrSt B w0 w p g n AD cD q h BD cB D S S2) : B < w.heap.size ∧ p < w.heap.size ∧ g < w.heap.size ∧ q < w.heap.size ∧ h < w.heap.size :=
  ⟨Nat.lt_of_le_of_lt s.Bg s.o.lt.2, s.o.lt.1, s.o.lt.2, s.r.lts.1, s.r.lts.2⟩
/-- A write into none of their blocks. -/
theorem OrSt.fr {T : Nat → Prop} (s : OrSt B w0 w p g n AD cD q h BD cB D S S2) (f : Fr T w w') (hT : ∀ k, T k → w.heap.size ≤ k) : OrSt B w0 w' p g n AD cD q h BD cB D S S2 := by
  obtain ⟨l0, l1, l2, l3, l4⟩ := s.lts
  have nt : ∀ k, k < w.heap.size → ¬ T k := fun k hk ht => by have := hT k ht; omega
  exact ⟨s.o.fr f (nt p l1) (nt g l2) (fun a ha => nt _ (s.lA a ha)), s.r.fr f (nt q l3) (nt h l4) (fun a ha => nt _ (s.r.lt a ha)), s.ph, s.qg, s.gh, s.dA, s.dB, fun a ha => Nat.lt_of_lt_of_le (s.lA a ha) f.size, s.Bg, s.Bh, Fr.under s.bel (by omega) f (fun k hk hl => absurd hk (nt k hl))⟩
theorem OrSt.below (s : OrSt B w0 w p g n AD cD q h BD cB D S S2) (b : Below w.heap.size w w') : OrSt B w0 w' p g n AD cD q h BD cB D S S2 := s.fr (Fr.of_below b NoS) (fun _ x => x.elim)
theorem OrSt.still (s : OrSt B w0 w p g n AD cD q h BD cB D S S2) (b : Still w w') : OrSt B w0 w' p g n AD cD q h BD cB D S S2 := s.below b.below
theorem OrSt.alloc (s : OrSt B w0 w p g n AD cD q h BD cB D S S2) (x : Obj) : OrSt B w0 (w.alloc x) p g n AD cD q h BD cB D S S2 := s.below ((Below.refl _ w).alloc (Nat.le_refl _) x)
/-- The program's states turn. -/
theorem OrSt.left (s : OrSt B w0 w p g n AD cD q h BD cB D S S2) (o : IsOut w' p g n AD cD D S') (f : Fr (· = g) w w') : OrSt B w0 w' p g n AD cD q h BD cB D S' S2 := by
  obtain ⟨l0, l1, l2, l3, l4⟩ := s.lts
  exact ⟨o, s.r.fr f s.qg s.gh.symm (fun a ha => s.dB a ha), s.ph, s.qg, s.gh, s.dA, s.dB, fun a ha => Nat.lt_of_lt_of_le (s.lA a ha) f.size, s.Bg, s.Bh, Fr.under s.bel (by omega) f (fun k hk _ => by subst hk; exact s.Bg)⟩
/-- The document's states turn. -/
theorem OrSt.right (s : OrSt B w0 w p g n AD cD q h BD cB D S S2) (r : IsRo w' q h n BD cB D S') (f : Fr (· = h) w w') : OrSt B w0 w' p g n AD cD q h BD cB D S S' := by
  obtain ⟨l0, l1, l2, l3, l4⟩ := s.lts
  exact ⟨s.o.fr f s.ph s.gh (fun a ha => s.dA a ha), r, s.ph, s.qg, s.gh, s.dA, s.dB, fun a ha => Nat.lt_of_lt_of_le (s.lA a ha) f.size, s.Bg, s.Bh, Fr.under s.bel (by omega) f (fun k hk _ => by subst hk; exact s.Bh)⟩
end
end Go.Proofs.Ytljpboikjhckiaa
