/- ranges: the contracts in the form in which the laws use them; awake. -/
import Derived.Test.YtdhdnpagdflgpaaRgF
namespace Go.Proofs.Ytdhdnpagdflgpaa
open Go.RowKit

/-- A Set none of whose blocks is in P; P's blocks are there. -/
def SetAt (P : Nat → Prop) (w : World) (p : Nat) (s : Rs) : Prop := (∃ A c, IsSet w p A c s ∧ ∀ k, OnB p A k → ¬ P k) ∧ (∀ k, P k → k < w.heap.size) ∧ s.Ok ∧ 1 ≤ s.most
def NotP (P : Nat → Prop) (k : Nat) : Prop := ¬ P k

section
variable {P Q : Nat → Prop} {w w' w0 : World} {p : Nat} {s : Rs} {B : Nat}
theorem fp_below (hb : Below B w0 w) (hB : B ≤ w.heap.size) (hP : ∀ k, k < B → P k) (F : Fr (NotP P) w w') : Below B w0 w' :=
  Fr.under hb hB F (fun k hk _ => by
    rcases Nat.lt_or_ge k B with h | h
    · exact absurd (hP k h) hk
    · exact h)
theorem SetAt.lt (h : SetAt P w p s) : p < w.heap.size := by obtain ⟨⟨A, c, hI, _⟩, _⟩ := h; exact hI.lt
theorem SetAt.fr {S : Nat → Prop} (h : SetAt P w p s) (F : Fr S w w') (hS : ∀ k, k < w.heap.size → S k → P k) : SetAt P w' p s := by
  obtain ⟨⟨A, c, hI, hn⟩, hlt, ho⟩ := h
  refine ⟨⟨A, c, hI.fr (T := fun k => S k ∧ k < w.heap.size) ⟨F.os, F.tape, F.output, F.size, fun k hk hs => F.block k hk (fun x => hs ⟨x, hk⟩)⟩ (fun e => hn p (.inl rfl) (hS p e.2 e.1)) (fun a ha e => hn a.block (.inr ⟨a, ha, rfl⟩) (hS _ e.2 e.1)), hn⟩, fun k hk => by have := hlt k hk; have := F.size; omega, ho⟩
theorem SetAt.below (h : SetAt P w p s) (b : Below w.heap.size w w') : SetAt P w' p s := h.fr (Fr.of_below b NoS) (fun _ _ x => x.elim)
theorem SetAt.alloc (h : SetAt P w p s) (o : Obj) : SetAt P (w.alloc o) p s := h.below ((Below.refl _ w).alloc (Nat.le_refl _) o)
theorem SetAt.still (h : SetAt P w p s) (b : Still w w') : SetAt P w' p s := h.below b.below
/-- New blocks may be guarded too. -/
theorem SetAt.widen (h : SetAt P w p s) (hQ : ∀ k, Q k → P k ∨ w.heap.size ≤ k) (b : Below w.heap.size w w') (hl : ∀ k, Q k → k < w'.heap.size) : SetAt Q w' p s := by
  have hs := h.below b
  obtain ⟨⟨A, c, hI, hn⟩, hlt, ho⟩ := h
  exact ⟨⟨A, c, hI.below b, fun k hk hq => by
    rcases hQ k hq with h1 | h1
    · exact hn k hk h1
    · have := hI.on_lt k hk; omega⟩, hl, ho⟩
theorem SetAt.narrow (h : SetAt P w p s) (hQ : ∀ k, Q k → P k) : SetAt Q w p s := by
  obtain ⟨⟨A, c, hI, hn⟩, hlt, ho⟩ := h
  exact ⟨⟨A, c, hI, fun k hk hq => hn k hk (hQ k hq)⟩, fun k hk => hlt k (hQ k hk), ho⟩
theorem SetAt.step {A : Option Addr} {c : Nat} (hI : IsSet w p A c s) (hn : ∀ k, OnB p A k → ¬ P k) (hlt : ∀ k, P k → k < w.heap.size) {A' : Option Addr} {c' : Nat} {s' : Rs} (I' : IsSet w' p A' c' s') (F : Fr (OnB p A) w w') (N : Next w A A') (ho : s'.Ok) (hm : 1 ≤ s'.most) : SetAt P w' p s' ∧ Fr (NotP P) w w' := by
  refine ⟨⟨⟨A', c', I', fun k hk hp => ?_⟩, fun k hk => by have := hlt k hk; have := F.size; omega, ho, hm⟩, F.mono (fun k hk _ => hn k hk)⟩
  rcases hk with rfl | ⟨a, ha, rfl⟩
  · exact hn _ (.inl rfl) hp
  · rcases N a ha with ⟨b, hb1, hb2⟩ | h2
    · exact hn _ (.inr ⟨b, hb1, hb2⟩) hp
    · have := hlt _ hp; omega

theorem new_at (P : Nat → Prop) (w : World) (hP : ∀ k, P k → k < w.heap.size) (most : Nat) (h1 : 1 ≤ most) (h2 : most ≤ 64) : Calls Try.prog 9 #[.int .i64 most] w fun e w' => ∃ p, e = .returned (.pointer (some ⟨p, 0, none⟩)) ∧ SetAt P w' p (rsnew most) ∧ Below w.heap.size w w' := by
  refine (new_any most w h1 h2).mono ?_
  rintro e w' ⟨rfl, hI, hb⟩
  refine ⟨_, rfl, ⟨⟨none, 0, hI, fun k hk hp => ?_⟩, fun k hk => by have := hP k hk; have := hb.size; omega, rsnew_ok most, h1⟩, hb⟩
  rcases hk with rfl | ⟨a, ha, _⟩
  · have := hP _ hp; omega
  · cases ha
theorem add_at (s' : Rs) (h : SetAt P w p s) (n : Nat) (hn : n ≤ 4611686018427387903) (hh : s.has n = false) (hs' : s.add n = s') : Calls Try.prog 11 #[.pointer (some ⟨p, 0, none⟩), .int .u64 n] w fun e w' => e = .returned (.bool true) ∧ SetAt P w' p s' ∧ Fr (NotP P) w w' := by
  obtain ⟨⟨A, c, hI, hP⟩, hlt, ho, hm⟩ := h
  refine (add_yes hI n hn hh ho.len).mono ?_
  rintro e w' ⟨rfl, A', c', I', F, N⟩
  obtain ⟨k1, _, _, k4, _⟩ := Rs.add_ok ho hh hn hm
  rw [hs'] at I' k1 k4
  exact ⟨rfl, SetAt.step hI hP hlt I' F N k1 (by omega)⟩
theorem addno_at (h : SetAt P w p s) (n : Nat) (hn : 4611686018427387903 < n ∨ (n ≤ 4611686018427387903 ∧ s.has n = true)) : Calls Try.prog 11 #[.pointer (some ⟨p, 0, none⟩), .int .u64 n] w fun e w' => e = .returned (.bool false) ∧ SetAt P w' p s ∧ Below w.heap.size w w' := by
  have h' := h
  obtain ⟨⟨A, c, hI, hP⟩, hlt, ho, hm⟩ := h
  refine (add_no hI n hn).mono ?_
  rintro e w' ⟨rfl, hb⟩
  exact ⟨rfl, h'.below hb, hb⟩
theorem has_at (b : Bool) (h : SetAt P w p s) (n : Nat) (hb : s.has n = b) : Calls Try.prog 14 #[.pointer (some ⟨p, 0, none⟩), .int .u64 n] w fun e w' => e = .returned (.bool b) ∧ SetAt P w' p s ∧ Below w.heap.size w w' := by
  have h' := h
  obtain ⟨⟨A, c, hI, hP⟩, hlt, ho, hm⟩ := h
  rw [← hb]
  refine (has_any hI n).mono ?_
  rintro e w' ⟨rfl, hb⟩
  exact ⟨rfl, h'.below hb, hb⟩
theorem list_at (l : List Rg) (h : SetAt P w p s) (hl : s.l = l) : Calls Try.prog 12 #[.pointer (some ⟨p, 0, none⟩)] w fun e w' => ∃ A c, e = .returned (.slice A l.length c) ∧ w'.ownsRow w.heap.size 33 2 (.slice A l.length c) l.length (rgv l) ∧ SetAt P w' p s ∧ Below w.heap.size w w' := by
  have h' := h
  obtain ⟨⟨A, c, hI, hP⟩, hlt, ho, hm⟩ := h
  refine (list_any hI).mono ?_
  rintro e w' ⟨A2, c2, rfl, o2, hb⟩
  rw [hl] at o2 ⊢
  exact ⟨A2, c2, rfl, o2, h'.below hb, hb⟩
theorem largest_at (n : Nat) (b : Bool) (h : SetAt P w p s) (hn : (s.l.head?.map Rg.hi).getD 0 = n) (hb : (!s.l.isEmpty) = b) : Calls Try.prog 15 #[.pointer (some ⟨p, 0, none⟩)] w fun e w' => e = .returned (.tuple #[.int .u64 n, .bool b]) ∧ Still w w' := by
  obtain ⟨⟨A, c, hI, hP⟩, hlt, ho, hm⟩ := h
  rw [← hn, ← hb]
  exact largest_any hI
theorem samer_to (b : Bool) (l m : List Rg) (A1 A2 : Option Addr) (c1 c2 : Nat) (w : World) (h1 : Rd w A1 (rgv l)) (h2 : Rd w A2 (rgv m)) (hl : l.length ≤ 1000000) (hm : m.length ≤ 1000000) (hb : decide (l = m) = b) :
    Calls Try.prog 13 #[.slice A1 l.length c1, .slice A2 m.length c2] w fun e w' => e = .returned (.bool b) ∧ Still w w' := by
  rw [← hb]
  exact still_of (samer_any l m A1 A2 c1 c2 w h1 h2 hl hm)
end

def aw1 : Rs := (rsnew 2).add 5
def aw2 : Rs := aw1.add 6
def aw3 : Rs := aw2.add 9
theorem aw_a : (rsnew 2).has 5 = false ∧ aw1.has 6 = false ∧ aw2.has 9 = false ∧ aw3.has 5 = true ∧ aw3.has 6 = true ∧ aw3.has 7 = false ∧ aw3.l = [⟨9, 9⟩, ⟨5, 6⟩] := by decide

set_option maxRecDepth 100000 in
set_option maxHeartbeats 4000000 in
theorem awake_any (w : World) :
    Calls Try.prog 8 #[] w fun e w' => e = .returned (.bool true) ∧ Below w.heap.size w w' := by
  have HA := Lib.hid aw_a
  have hP : Hid (∀ k, k < w.heap.size → (fun k => k < w.heap.size) k) := Lib.hid (fun _ h => h)
  go_enter Try.func8, Try.ntmps8
  go_wp2_with fail
  refine (new_at (fun k => k < w.heap.size) w (fun _ h => h) 2 (by omega) (by omega)).mono ?_
  rintro e w1 ⟨p, rfl, H, hb⟩
  have hs1 := hb.size
  replace H := Lib.hid H
  replace hb := Lib.hid hb
  go_wp2_with fail
  refine (add_at aw1 H.out 5 (by decide) HA.out.1 rfl).mono ?_
  rintro e w2 ⟨rfl, H2, F2⟩
  replace hb : Hid (Below w.heap.size w w2) := Lib.hid (fp_below hb.out hb.out.size (fun _ h => h) F2)
  replace H2 := Lib.hid H2
  clear H F2
  go_wp2_with fail
  refine (add_at aw2 H2.out 6 (by decide) HA.out.2.1 rfl).mono ?_
  rintro e w3 ⟨rfl, H3, F3⟩
  replace hb : Hid (Below w.heap.size w w3) := Lib.hid (fp_below hb.out hb.out.size (fun _ h => h) F3)
  replace H3 := Lib.hid H3
  clear H2 F3
  go_wp2_with fail
  refine (add_at aw3 H3.out 9 (by decide) HA.out.2.2.1 rfl).mono ?_
  rintro e w4 ⟨rfl, H4, F4⟩
  replace hb : Hid (Below w.heap.size w w4) := Lib.hid (fp_below hb.out hb.out.size (fun _ h => h) F4)
  replace H4 := Lib.hid H4
  clear H3 F4
  go_wp2_with fail
  refine (addno_at H4.out 5 (.inr ⟨by decide, HA.out.2.2.2.1⟩)).mono ?_
  rintro e w5 ⟨rfl, H5, b5⟩
  replace hb : Hid (Below w.heap.size w w5) := Lib.hid (hb.out.trans (b5.mono hb.out.size))
  replace H5 := Lib.hid H5
  clear H4 b5
  go_wp2_with fail
  refine (largest_at 9 true H5.out (by rw [HA.out.2.2.2.2.2.2]; rfl) (by rw [HA.out.2.2.2.2.2.2]; rfl)).mono ?_
  rintro e w6 ⟨rfl, S6⟩
  replace hb : Hid (Below w.heap.size w w6) := Lib.hid (hb.out.trans (S6.below.mono hb.out.size))
  replace H5 := Lib.hid (H5.out.still S6)
  clear S6
  go_wp2_with fail
  refine (has_at true H5.out 6 HA.out.2.2.2.2.1).mono ?_
  rintro e w7 ⟨rfl, H7, b7⟩
  replace hb : Hid (Below w.heap.size w w7) := Lib.hid (hb.out.trans (b7.mono hb.out.size))
  replace H7 := Lib.hid H7
  clear H5 b7
  go_wp2_with fail
  refine (has_at false H7.out 7 HA.out.2.2.2.2.2.1).mono ?_
  rintro e w8 ⟨rfl, H8, b8⟩
  replace hb : Hid (Below w.heap.size w w8) := Lib.hid (hb.out.trans (b8.mono hb.out.size))
  replace H8 := Lib.hid H8
  clear H7 b8
  go_wp2_with fail
  refine (list_at [⟨9, 9⟩, ⟨5, 6⟩] H8.out HA.out.2.2.2.2.2.2).mono ?_
  rintro e w9 ⟨A9, c9, rfl, o9, H9, b9⟩
  replace hb : Hid (Below w.heap.size w w9) := Lib.hid (hb.out.trans (b9.mono hb.out.size))
  replace o9 := Lib.hid o9
  clear H8 b9 H9
  go_wp2_with fail
  refine (samer_to true [⟨9, 9⟩, ⟨5, 6⟩] [⟨9, 9⟩, ⟨5, 6⟩] _ _ _ _ _ ((Rd.of_ownS o9.out).alloc _) (Rd.fresh_mark _ (rgv [⟨9, 9⟩, ⟨5, 6⟩]) _ _) (by simp) (by simp) rfl).mono ?_
  rintro e w10 ⟨rfl, S10⟩
  replace hb : Hid (Below w.heap.size w w10) := Lib.hid ((hb.out.alloc hb.out.size _).trans (S10.below.mono (hb.out.alloc hb.out.size _).size))
  clear S10 o9
  go_wp2_with fail
  refine (new_no 0 _ (.inl (by omega))).mono ?_
  rintro e w11 ⟨rfl, rfl⟩
  go_wp2_with fail
  go_ret
  exact ⟨rfl, hb.out⟩
end Go.Proofs.Ytdhdnpagdflgpaa
