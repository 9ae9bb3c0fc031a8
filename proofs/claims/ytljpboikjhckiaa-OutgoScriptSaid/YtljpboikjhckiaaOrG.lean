/- The program's Out and the document's beside one another: each call. -/
import Derived.Test.YtljpboikjhckiaaOrF
namespace Go.Proofs.Ytljpboikjhckiaa
open Go.RowKit
section
variable {B p g n cD q h cB : Nat} {w0 w w' : World} {AD BD : Option Addr} {D S S2 S' : List UInt8}
theorem OrSt.next_p (s : OrSt B w0 w p g n AD cD q h BD cB D S S2) (room allow : Int) (a : Int) (l : List UInt8) (k : Nat) (e ok : Bool) (S' : List UInt8) (hr0 : -9223372036854775808 ≤ room) (hr1 : room ≤ 9223372036854775807) (ha0 : -9223372036854775808 ≤ allow) (ha1 : allow ≤ 9223372036854775807) (hk : l.length = k) (hn : oNext D S n room allow = (a, l, e, ok, S')) :
    Calls Try.prog 13 #[.pointer (some ⟨p, 0, none⟩), .int .i64 room, .int .i64 allow] w fun r w' => ∃ A c, r = .returned (.tuple #[.int .i64 a, .slice A k c, .bool e, .bool ok]) ∧ w'.ownsRow w.heap.size 5 1 (.slice A k c) k (bv l) ∧ OrSt B w0 w' p g n AD cD q h BD cB D S' S2 ∧ Fr (· = g) w w' := by
  subst hk
  refine (oNext_any s.o room allow hr0 hr1 ha0 ha1).mono ?_
  rw [hn]
  rintro r w' ⟨A, c, hr, ho, hi, f⟩
  exact ⟨A, c, hr, ho, s.left hi f, f⟩
theorem OrSt.next_r (s : OrSt B w0 w p g n AD cD q h BD cB D S S2) (room allow : Int) (a : Int) (l : List UInt8) (k : Nat) (e ok : Bool) (S' : List UInt8) (hr0 : -9223372036854775808 ≤ room) (hr1 : room ≤ 9223372036854775807) (ha0 : -9223372036854775808 ≤ allow) (ha1 : allow ≤ 9223372036854775807) (hk : l.length = k) (hn : oNext D S2 n room allow = (a, l, e, ok, S')) :
    Calls Try.prog 14 #[.pointer (some ⟨q, 0, none⟩), .int .i64 room, .int .i64 allow] w fun r w' => ∃ A c, r = .returned (.tuple #[.int .i64 a, .slice A k c, .bool e, .bool ok]) ∧ w'.ownsRow w.heap.size 5 1 (.slice A k c) k (bv l) ∧ OrSt B w0 w' p g n AD cD q h BD cB D S S' ∧ Fr (· = h) w w' := by
  subst hk
  refine (rNext_any s.r room allow hr0 hr1 ha0 ha1).mono ?_
  rw [hn]
  rintro r w' ⟨A, c, hr, ho, hi, f⟩
  exact ⟨A, c, hr, ho, s.right hi f, f⟩
theorem OrSt.there_p (s : OrSt B w0 w p g n AD cD q h BD cB D S S2) (off m : Int) (e : Bool) (ho0 : -9223372036854775808 ≤ off) (ho1 : off ≤ 9223372036854775807) (hm0 : -9223372036854775808 ≤ m) (hm1 : m ≤ 9223372036854775807) :
    Calls Try.prog 16 #[.pointer (some ⟨p, 0, none⟩), .int .i64 off, .int .i64 m, .bool e] w fun r w' => r = .returned (.tuple #[]) ∧ OrSt B w0 w' p g n AD cD q h BD cB D (oturn S n off m e 3 [1, 2]) S2 ∧ Fr (· = g) w w' :=
  (there_any s.o off m e ho0 ho1 hm0 hm1).mono (fun _ _ ⟨hr, hi, f⟩ => ⟨hr, s.left hi f, f⟩)
theorem OrSt.there_r (s : OrSt B w0 w p g n AD cD q h BD cB D S S2) (off m : Int) (e : Bool) (ho0 : -9223372036854775808 ≤ off) (ho1 : off ≤ 9223372036854775807) (hm0 : -9223372036854775808 ≤ m) (hm1 : m ≤ 9223372036854775807) :
    Calls Try.prog 17 #[.pointer (some ⟨q, 0, none⟩), .int .i64 off, .int .i64 m, .bool e] w fun r w' => r = .returned (.tuple #[]) ∧ OrSt B w0 w' p g n AD cD q h BD cB D S (oturn S2 n off m e 3 [1, 2]) ∧ Fr (· = h) w w' :=
  (rthere_any s.r off m e ho0 ho1 hm0 hm1).mono (fun _ _ ⟨hr, hi, f⟩ => ⟨hr, s.right hi f, f⟩)
theorem OrSt.lost_p (s : OrSt B w0 w p g n AD cD q h BD cB D S S2) (off m : Int) (e : Bool) (ho0 : -9223372036854775808 ≤ off) (ho1 : off ≤ 9223372036854775807) (hm0 : -9223372036854775808 ≤ m) (hm1 : m ≤ 9223372036854775807) :
    Calls Try.prog 18 #[.pointer (some ⟨p, 0, none⟩), .int .i64 off, .int .i64 m, .bool e] w fun r w' => r = .returned (.tuple #[]) ∧ OrSt B w0 w' p g n AD cD q h BD cB D (oturn S n off m e 2 [1]) S2 ∧ Fr (· = g) w w' :=
  (lost_any s.o off m e ho0 ho1 hm0 hm1).mono (fun _ _ ⟨hr, hi, f⟩ => ⟨hr, s.left hi f, f⟩)
theorem OrSt.lost_r (s : OrSt B w0 w p g n AD cD q h BD cB D S S2) (off m : Int) (e : Bool) (ho0 : -9223372036854775808 ≤ off) (ho1 : off ≤ 9223372036854775807) (hm0 : -9223372036854775808 ≤ m) (hm1 : m ≤ 9223372036854775807) :
    Calls Try.prog 19 #[.pointer (some ⟨q, 0, none⟩), .int .i64 off, .int .i64 m, .bool e] w fun r w' => r = .returned (.tuple #[]) ∧ OrSt B w0 w' p g n AD cD q h BD cB D S (oturn S2 n off m e 2 [1]) ∧ Fr (· = h) w w' :=
  (rlost_any s.r off m e ho0 ho1 hm0 hm1).mono (fun _ _ ⟨hr, hi, f⟩ => ⟨hr, s.right hi f, f⟩)
theorem OrSt.counts (s : OrSt B w0 w p g n AD cD q h BD cB D S S2) (a b : Nat) (c : Bool) (ha : cntNe (S2.take n) 0 = a) (hb : cntNe (S2.take n) 3 = b) (hc : odone S2 n = c) :
    Calls Try.prog 20 #[.pointer (some ⟨q, 0, none⟩)] w fun e w' => e = .returned (.tuple #[.int .i64 a, .int .i64 b, .bool c]) ∧ OrSt B w0 w' p g n AD cD q h BD cB D S S2 :=
  (rcounts_any s.r a b c ha hb hc).mono (fun _ _ ⟨he, b⟩ => ⟨he, s.still b⟩)
theorem OrSt.sent (s : OrSt B w0 w p g n AD cD q h BD cB D S S2) (k : Nat) (hk : cntNe (S.take n) 0 = k) : Calls Try.prog 21 #[.pointer (some ⟨p, 0, none⟩)] w fun e w' => e = .returned (.int .i64 k) ∧ OrSt B w0 w' p g n AD cD q h BD cB D S S2 :=
  (sent_any s.o).mono (fun _ _ ⟨he, j, hw⟩ => ⟨by rw [he, hk], by rw [hw]; exact s.still (Still.drewN _ _)⟩)
theorem OrSt.lefts (s : OrSt B w0 w p g n AD cD q h BD cB D S S2) (k : Nat) (hk : cntNe (S.take n) 3 = k) : Calls Try.prog 22 #[.pointer (some ⟨p, 0, none⟩)] w fun e w' => e = .returned (.int .i64 k) ∧ OrSt B w0 w' p g n AD cD q h BD cB D S S2 :=
  (left_any s.o).mono (fun _ _ ⟨he, j, hw⟩ => ⟨by rw [he, hk], by rw [hw]; exact s.still (Still.drewN _ _)⟩)
theorem OrSt.done (s : OrSt B w0 w p g n AD cD q h BD cB D S S2) (k : Bool) (hk : odone S n = k) : Calls Try.prog 23 #[.pointer (some ⟨p, 0, none⟩)] w fun e w' => e = .returned (.bool k) ∧ OrSt B w0 w' p g n AD cD q h BD cB D S S2 :=
  (done_any s.o).mono (fun _ _ ⟨he, j, hw⟩ => ⟨by rw [he, hk], by rw [hw]; exact s.still (Still.drewN _ _)⟩)
theorem OrSt.over {A : Option Addr} {c k X : Nat} {l : List UInt8} (s : OrSt B w0 w p g n AD cD q h BD cB D S S2) (hl : l.length = k) (hk : k ≤ 1000) (ho : w.ownsRow X 5 1 (.slice A k c) k (bv l)) (hp : p < X) (hg : g < X) (hA : ∀ a, AD = some a → a.block < X) (hq : q < X) (hh : h < X) (hB : ∀ a, BD = some a → a.block < X) (hX : B ≤ X) :
    Calls Try.prog 12 #[.slice A k c] w fun e w' => e = .returned (.tuple #[]) ∧ OrSt B w0 w' p g n AD cD q h BD cB D S S2 := by
  refine (over_any l A k c X w hl hk ho).mono ?_
  rintro e w' ⟨he, f⟩
  have lo : ∀ j, (Value.slice A k c).ownBlock = some j → X ≤ j := fun j hj => (ho.lt j hj).1
  have nt : ∀ j, j < X → ¬ (Value.slice A k c).ownBlock = some j := fun j hj hh => by have := lo j hh; omega
  have l0 := s.lts
  exact ⟨he, s.o.fr f (nt p hp) (nt g hg) (fun a ha => nt _ (hA a ha)), s.r.fr f (nt q hq) (nt h hh) (fun a ha => nt _ (hB a ha)), s.ph, s.qg, s.gh, s.dA, s.dB, fun a ha => Nat.lt_of_lt_of_le (s.lA a ha) f.size, s.Bg, s.Bh, Fr.under s.bel (by omega) f (fun j hj _ => by have := lo j hj; omega)⟩
end
end Go.Proofs.Ytljpboikjhckiaa
