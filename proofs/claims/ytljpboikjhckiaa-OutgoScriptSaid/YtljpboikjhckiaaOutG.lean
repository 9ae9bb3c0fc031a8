/- outgo: an Out that a law holds; awake. -/
import Derived.Test.YtljpboikjhckiaaOutE
import Derived.Test.YtljpboikjhckiaaOutF
import Derived.Test.YtljpboikjhckiaaSame
import Derived.Lib.SlBytesConst
namespace Go.Proofs.Ytljpboikjhckiaa
open Go.RowKit

/-- An Out whose blocks lie from B on; below B nothing has turned since w0. -/
structure OutAt (B : Nat) (w0 w : World) (p g n : Nat) (AD : Option Addr) (cD : Nat) (D S : List UInt8) : Prop where
  is : IsOut w p g n AD cD D S
  bp : B ≤ p
  bg : B ≤ g
  ba : ∀ a, AD = some a → B ≤ a.block
  bel : Below B w0 w

section
variable {B p g n : Nat} {w0 w w' : World} {AD : Option Addr} {cD : Nat} {D S : List UInt8}
theorem OutAt.step {T : Nat → Prop} (h : OutAt B w0 w p g n AD cD D S) (f : Fr T w w') (hp : ¬ T p) (hg : ¬ T g) (hA : ∀ a, AD = some a → ¬ T a.block) (hB : ∀ k, T k → k < w.heap.size → B ≤ k) : OutAt B w0 w' p g n AD cD D S :=
  ⟨h.is.fr f hp hg hA, h.bp, h.bg, h.ba, Fr.under h.bel (by have := h.is.lt.1; have := h.bp; omega) f hB⟩
theorem OutAt.alloc (h : OutAt B w0 w p g n AD cD D S) (o : Obj) : OutAt B w0 (w.alloc o) p g n AD cD D S := h.step ((Fr.refl NoS w).alloc o) (fun x => x) (fun x => x) (fun _ _ x => x) (fun _ x => x.elim)
theorem OutAt.still (h : OutAt B w0 w p g n AD cD D S) (q : Still w w') : OutAt B w0 w' p g n AD cD D S := h.step (q.fr NoS) (fun x => x) (fun x => x) (fun _ _ x => x) (fun _ x => x.elim)
theorem OutAt.drew (h : OutAt B w0 w p g n AD cD D S) : OutAt B w0 w.drew p g n AD cD D S := h.still (Still.drew w)
theorem OutAt.drewN (h : OutAt B w0 w p g n AD cD D S) (k : Nat) : OutAt B w0 (w.drewN k) p g n AD cD D S := h.still (Still.drewN w k)
theorem OutAt.below (h : OutAt B w0 w p g n AD cD D S) (f : Below w.heap.size w w') : OutAt B w0 w' p g n AD cD D S := h.step (Fr.of_below f NoS) (fun x => x) (fun x => x) (fun _ _ x => x) (fun _ x => x.elim)
theorem OutAt.to {S' : List UInt8} (h : OutAt B w0 w p g n AD cD D S) (i : IsOut w' p g n AD cD D S') (f : Fr (· = g) w w') : OutAt B w0 w' p g n AD cD D S' :=
  ⟨i, h.bp, h.bg, h.ba, Fr.under h.bel (by have := h.is.lt.1; have := h.bp; omega) f (fun k hk _ => by subst hk; exact h.bg)⟩
theorem OutAt.size (h : OutAt B w0 w p g n AD cD D S) : B ≤ w.heap.size := by have := h.is.lt.1; have := h.bp; omega

theorem onew_at (B : Nat) (w0 w : World) (D : List UInt8) (A : Option Addr) (n c : Nat) (hn : D.length = n) (hb : Below B w0 w) (hB : B ≤ w.heap.size) (hr : Rd w A (bv D)) (hA : A = none → c = 0) (hl : n ≤ 100000) :
    Calls Try.prog 10 #[.slice A n c] w fun e w' => ∃ p g AD cD, e = .returned (.pointer (some ⟨p, 0, none⟩)) ∧ OutAt B w0 w' p g n AD cD D (List.replicate (n + 1) 0) ∧ w.heap.size ≤ p ∧ w.heap.size ≤ g ∧ Below w.heap.size w w' ∧ ∀ a, AD = some a → a.block < w'.heap.size := by
  subst hn
  refine (onew_any D A c w hr hA hl).mono ?_
  rintro e w' ⟨p, g, AD, cD, he, hI, hf, h1, h2, h3, h4⟩
  exact ⟨p, g, AD, cD, he, ⟨hI, by omega, by omega, fun a ha => Nat.le_trans hB (h3 a ha), hb.trans (hf.mono hB)⟩, h1, h2, hf, h4⟩
theorem onext_at (h : OutAt B w0 w p g n AD cD D S) (room allow : Int) (a : Int) (l : List UInt8) (k : Nat) (e ok : Bool) (S' : List UInt8) (hr0 : -9223372036854775808 ≤ room) (hr1 : room ≤ 9223372036854775807) (ha0 : -9223372036854775808 ≤ allow) (ha1 : allow ≤ 9223372036854775807) (hk : l.length = k) (hn : oNext D S n room allow = (a, l, e, ok, S')) :
    Calls Try.prog 13 #[.pointer (some ⟨p, 0, none⟩), .int .i64 room, .int .i64 allow] w fun r w' => ∃ A c, r = .returned (.tuple #[.int .i64 a, .slice A k c, .bool e, .bool ok]) ∧ w'.ownsRow w.heap.size 5 1 (.slice A k c) k (bv l) ∧ OutAt B w0 w' p g n AD cD D S' ∧ Fr (· = g) w w' := by
  subst hk
  refine (oNext_any h.is room allow hr0 hr1 ha0 ha1).mono ?_
  rw [hn]
  rintro r w' ⟨A, c, he, ho, hI, hF⟩
  exact ⟨A, c, he, ho, h.to hI hF, hF⟩
theorem othere_at (h : OutAt B w0 w p g n AD cD D S) (off m : Int) (e : Bool) (S' : List UInt8) (ho0 : -9223372036854775808 ≤ off) (ho1 : off ≤ 9223372036854775807) (hm0 : -9223372036854775808 ≤ m) (hm1 : m ≤ 9223372036854775807) (hs : oturn S n off m e 3 [1, 2] = S') :
    Calls Try.prog 16 #[.pointer (some ⟨p, 0, none⟩), .int .i64 off, .int .i64 m, .bool e] w fun r w' => r = .returned (.tuple #[]) ∧ OutAt B w0 w' p g n AD cD D S' ∧ Fr (· = g) w w' := by
  subst hs
  exact (there_any h.is off m e ho0 ho1 hm0 hm1).mono fun r w' ⟨he, hI, hF⟩ => ⟨he, h.to hI hF, hF⟩
theorem olost_at (h : OutAt B w0 w p g n AD cD D S) (off m : Int) (e : Bool) (S' : List UInt8) (ho0 : -9223372036854775808 ≤ off) (ho1 : off ≤ 9223372036854775807) (hm0 : -9223372036854775808 ≤ m) (hm1 : m ≤ 9223372036854775807) (hs : oturn S n off m e 2 [1] = S') :
    Calls Try.prog 18 #[.pointer (some ⟨p, 0, none⟩), .int .i64 off, .int .i64 m, .bool e] w fun r w' => r = .returned (.tuple #[]) ∧ OutAt B w0 w' p g n AD cD D S' ∧ Fr (· = g) w w' := by
  subst hs
  exact (lost_any h.is off m e ho0 ho1 hm0 hm1).mono fun r w' ⟨he, hI, hF⟩ => ⟨he, h.to hI hF, hF⟩
theorem odone_at (h : OutAt B w0 w p g n AD cD D S) (b : Bool) (hb : odone S n = b) :
    Calls Try.prog 23 #[.pointer (some ⟨p, 0, none⟩)] w fun e w' => e = .returned (.bool b) ∧ Still w w' := by
  subst hb; exact still_of (done_any h.is)
theorem osent_at (h : OutAt B w0 w p g n AD cD D S) (k : Nat) (hk : cntNe (S.take n) 0 = k) :
    Calls Try.prog 21 #[.pointer (some ⟨p, 0, none⟩)] w fun e w' => e = .returned (.int .i64 k) ∧ Still w w' := by
  subst hk; exact still_of (sent_any h.is)
theorem oleft_at (h : OutAt B w0 w p g n AD cD D S) (k : Nat) (hk : cntNe (S.take n) 3 = k) :
    Calls Try.prog 22 #[.pointer (some ⟨p, 0, none⟩)] w fun e w' => e = .returned (.int .i64 k) ∧ Still w w' := by
  subst hk; exact still_of (left_any h.is)
end
theorem same_eq (l : List UInt8) (n : Nat) (A1 A2 : Option Addr) (c1 c2 : Nat) (w : World) (hl : l.length = n) (h1 : Rd w A1 (bv l)) (h2 : Rd w A2 (bv l)) (hn : n ≤ 140737488355328) :
    Calls Try.prog 15 #[.slice A1 n c1, .slice A2 n c2] w fun e w' => e = .returned (.bool true) ∧ Still w w' := by
  subst hl
  have := still_of (same_any l l A1 A2 c1 c2 w h1 h2 hn hn)
  rwa [show decide (l = l) = true from by simp] at this

set_option maxRecDepth 100000 in
set_option maxHeartbeats 4000000 in
theorem awake_any (w : World) :
    Calls Try.prog 8 #[] w fun e w' => e = .returned (.bool true) ∧ Below w.heap.size w w' := by
  have kc := fun (w : World) (C : Array Value) (n c : Nat) => Lib.run_convert_bytes_const (P := Try.prog) w 22 5 C n c Try.underlying22 Try.underlying5
  go_enter Try.func8, Try.ntmps8
  go_wp2_with fail
  refine (onew_at w.heap.size w _ [97, 98, 99] _ 3 3 rfl (Fr.below ((Fr.refl NoS w).alloc _)) (by simp) (Rd.fresh_mark _ (bv [97, 98, 99]) _ _) (fun h => by cases h) (by decide)).mono ?_
  rintro e w1 ⟨p, g, AD, cD, rfl, I1, -, -, -, -⟩
  go_wp2_with fail
  refine (onext_at I1 2 9 0 [97, 98] 2 false true [1, 1, 0, 0] (by decide) (by decide) (by decide) (by decide) rfl (by rfl)).mono ?_
  rintro r w2 ⟨A2, c2, rfl, ho2, I2, hF2⟩
  have hgs := I1.is.lt.2
  have hne : ∀ a, A2 = some a → ¬ a.block = g := fun a ha e => by have := (ho2.lt a.block (by rw [ha]; rfl)).1; omega
  have R2 := Rd.of_own ho2
  replace hne := Lib.hid hne
  clear I1 hF2 ho2 hgs
  go_wp2_with fail
  refine (othere_at I2 0 2 false [3, 3, 0, 0] (by decide) (by decide) (by decide) (by decide) (by rfl)).mono ?_
  rintro r w3 ⟨rfl, I3, hF3⟩
  replace R2 := R2.fr hF3 (fun _ a ha => hne.out a ha)
  clear I2 hF3
  go_wp2_with fail
  refine (onext_at I3 9 9 2 [99] 1 true true [3, 3, 1, 1] (by decide) (by decide) (by decide) (by decide) rfl (by rfl)).mono ?_
  rintro r w4 ⟨A4, c4, rfl, ho4, I4, hF4⟩
  replace R2 := R2.fr hF4 (fun _ a ha => hne.out a ha)
  clear I3 hF4 ho4
  go_wp2_with fail
  refine (othere_at I4 2 1 true [3, 3, 3, 3] (by decide) (by decide) (by decide) (by decide) (by rfl)).mono ?_
  rintro r w5 ⟨rfl, I5, hF5⟩
  replace R2 := R2.fr hF5 (fun _ a ha => hne.out a ha)
  clear I4 hF5
  go_wp2_with fail
  refine (same_eq [97, 98] 2 A2 _ _ _ _ rfl (R2.alloc _) (Rd.fresh_mark _ (bv [97, 98]) _ _) (by decide)).mono ?_
  rintro e w6 ⟨rfl, q⟩
  replace I5 := (I5.alloc (.cells (bv [97, 98]).toArray 5 (2, 3))).still q
  clear q R2
  go_wp2_with fail
  refine (odone_at I5 true (by rfl)).mono ?_
  rintro e w7 ⟨rfl, q⟩
  replace I5 := I5.still q
  clear q
  go_wp2_with fail
  refine (osent_at I5 3 (by rfl)).mono ?_
  rintro e w8 ⟨rfl, q⟩
  replace I5 := I5.still q
  clear q
  go_wp2_with fail
  refine (oleft_at I5 0 (by rfl)).mono ?_
  rintro e w9 ⟨rfl, q⟩
  replace I5 := I5.still q
  go_wp2_with fail
  go_ret
  exact ⟨rfl, I5.bel⟩
end Go.Proofs.Ytljpboikjhckiaa
