/- The program's Set and the document's beside one another: each call. -/
import Derived.Test.YtdhdnpagdflgpaaAtR
namespace Go.Proofs.Ytdhdnpagdflgpaa
open Go.RowKit

def OS (w : World) (p : Nat) (S : Nat → Prop) (s : Rs) : Prop := ∃ A c, IsSet w p A c s ∧ S = OnB p A
def ON (w : World) (p : Nat) (S : Nat → Prop) (r : RN) : Prop := ∃ A c, IsRn w p A c r ∧ S = OnB p A
theorem okS : ObjOk OS := ⟨fun ⟨A, c, h, e⟩ f hS => ⟨A, c, h.fr f (hS _ (by rw [e]; exact .inl rfl)) (fun a ha => hS _ (by rw [e]; exact .inr ⟨a, ha, rfl⟩)), e⟩, fun ⟨A, c, h, e⟩ k hk => by rw [e] at hk; exact h.on_lt k hk⟩
theorem okN : ObjOk ON := ⟨fun ⟨A, c, h, e⟩ f hS => ⟨A, c, h.fr f (fun k hk => hS k (by rw [e]; exact hk)), e⟩, fun ⟨A, c, h, e⟩ k hk => by rw [e] at hk; exact h.on_lt k hk⟩
theorem nxt_of {w : World} {p : Nat} {A A' : Option Addr} (h : Next w A A') : Nxt w (OnB p A) (OnB p A') := fun k hk => by
  rcases hk with rfl | ⟨a, ha, rfl⟩
  · exact .inl (.inl rfl)
  · rcases h a ha with ⟨b, hb, e⟩ | h1
    · exact .inl (.inr ⟨b, hb, e⟩)
    · exact .inr h1
section
variable {Q : Nat → Prop} {w : World} {p q : Nat} {s : Rs} {r : RN}
theorem Two.narrow {σ τ : Type} {I : World → Nat → (Nat → Prop) → σ → Prop} {J : World → Nat → (Nat → Prop) → τ → Prop} {P Q : Nat → Prop} {s : σ} {t : τ} (h : Two I J P w p s q t) (hQ : ∀ k, Q k → P k) : Two I J Q w p s q t := by
  obtain ⟨S, T, h1, h2, h3, h4, h5⟩ := h
  exact ⟨S, T, h1, h2, fun k hk => ⟨fun x => (h3 k hk).1 (hQ k x), (h3 k hk).2⟩, fun k hk x => h4 k hk (hQ k x), fun k hk => h5 k (hQ k hk)⟩
theorem notP_mono {P R : Nat → Prop} {w w' : World} (h : ∀ k, P k → R k) (f : Fr (NotP R) w w') : Fr (NotP P) w w' := f.mono (fun k hk _ hp => hk (h k hp))
/-- What Add makes of each. -/
def sadd (s : Rs) (n : Nat) : Rs := if n ≤ 4611686018427387903 ∧ s.has n = false then s.add n else s
def raddx (r : RN) (n : Nat) : RN := if n ≤ 4611686018427387903 ∧ r.has n = false then r.add n else r
theorem sim_addx (h : SimR s r) (n : Nat) : SimR (sadd s n) (raddx r n) := by
  unfold sadd raddx
  rw [← h.has]
  split
  · rename_i hx; exact h.add n hx.1 hx.2
  · exact h
theorem raddx_len (r : RN) (n : Nat) : (raddx r n).N.length ≤ r.N.length + 1 := by
  unfold raddx
  split
  · exact add_len r n
  · omega
theorem add_t1 (n : Nat) (b : Bool) (h : Two OS ON Q w p s q r) (hs : SimR s r) (hb : decide (n ≤ 4611686018427387903 ∧ s.has n = false) = b) :
    Calls Try.prog 11 #[.pointer (some ⟨p, 0, none⟩), .int .u64 n] w fun e w' => e = .returned (.bool b) ∧ Two OS ON Q w' p (sadd s n) q r ∧ Fr (NotP Q) w w' := by
  subst hb
  by_cases hc : n ≤ 4611686018427387903 ∧ s.has n = false
  · obtain ⟨R, ⟨⟨S, ⟨A, c, hI, rfl⟩, hn1⟩, hlt⟩, hPR, h2⟩ := h.left okN
    refine (add_yes hI n hc.1 hc.2 hs.ok.len).mono ?_
    rintro e w' ⟨rfl, A', c', hI2, hF, hN⟩
    obtain ⟨a1, a2⟩ := At.step (I := OS) hn1 hlt ⟨A', c', hI2, rfl⟩ hF (nxt_of hN)
    unfold sadd
    rw [if_pos hc]
    exact ⟨by rw [decide_eq_true hc], h2 _ _ a1 a2, notP_mono hPR a2⟩
  · obtain ⟨⟨S, ⟨A, c, hI, rfl⟩, hn1⟩, hlt⟩ := h.fst
    refine (add_no hI n (by
      rcases Nat.lt_or_ge 4611686018427387903 n with h1 | h1
      · exact .inl h1
      · refine .inr ⟨h1, ?_⟩
        cases hh : s.has n
        · exact absurd ⟨h1, hh⟩ hc
        · rfl)).mono ?_
    rintro e w' ⟨rfl, bl⟩
    unfold sadd
    rw [if_neg hc]
    exact ⟨by rw [decide_eq_false hc], h.below okS okN bl, Fr.of_below bl _⟩
theorem add_t2 (n : Nat) (b : Bool) (h : Two OS ON Q w p s q r) (hasc : r.N.Pairwise (· < ·)) (hl : r.N.length < 100) (hb : decide (n ≤ 4611686018427387903 ∧ r.has n = false) = b) :
    Calls Try.prog 18 #[.pointer (some ⟨q, 0, none⟩), .int .u64 n] w fun e w' => e = .returned (.bool b) ∧ Two OS ON Q w' p s q (raddx r n) ∧ Fr (NotP Q) w w' := by
  subst hb
  obtain ⟨R, ⟨⟨S, ⟨A, c, hI, rfl⟩, hn1⟩, hlt⟩, hPR, h2⟩ := h.right okS
  by_cases hc : n ≤ 4611686018427387903 ∧ r.has n = false
  · refine (radd_yes hI hasc n hc.1 hc.2 hl).mono ?_
    rintro e w' ⟨rfl, A', c', hI2, hF, hN⟩
    obtain ⟨a1, a2⟩ := At.step (I := ON) hn1 hlt ⟨A', c', hI2, rfl⟩ (hF.mono (fun k hk _ => .inl hk)) (nxt_of hN)
    unfold raddx
    rw [if_pos hc]
    exact ⟨by rw [decide_eq_true hc], h2 _ _ a1 a2, notP_mono hPR a2⟩
  · refine (radd_no hI n (by
      rcases Nat.lt_or_ge 4611686018427387903 n with h1 | h1
      · exact .inl h1
      · refine .inr ⟨h1, ?_⟩
        cases hh : r.has n
        · exact absurd ⟨h1, hh⟩ hc
        · rfl)).mono ?_
    rintro e w' ⟨rfl, rfl⟩
    unfold raddx
    rw [if_neg hc]
    exact ⟨by rw [decide_eq_false hc], h, Fr.refl _ _⟩
theorem below_t1 (n : Nat) (h : Two OS ON Q w p s q r) (hs : SimR s r) (hn : n < 18446744073709551616) :
    Calls Try.prog 16 #[.pointer (some ⟨p, 0, none⟩), .int .u64 n] w fun e w' => e = .returned (.tuple #[]) ∧ Two OS ON Q w' p (s.below n) q r ∧ Fr (NotP Q) w w' := by
  obtain ⟨R, ⟨⟨S, ⟨A, c, hI, rfl⟩, hn1⟩, hlt⟩, hPR, h2⟩ := h.left okN
  refine (below_any hI hs.ok.ok n hn).mono ?_
  rintro e w' ⟨rfl, hI2, hF⟩
  obtain ⟨a1, a2⟩ := At.step (I := OS) hn1 hlt ⟨A, c, hI2, rfl⟩ hF (Nxt.refl _ _)
  exact ⟨rfl, h2 _ _ a1 a2, notP_mono hPR a2⟩
theorem below_t2 (n : Nat) (h : Two OS ON Q w p s q r) (hn : n < 18446744073709551616) :
    Calls Try.prog 17 #[.pointer (some ⟨q, 0, none⟩), .int .u64 n] w fun e w' => e = .returned (.tuple #[]) ∧ Two OS ON Q w' p s q (r.below n) ∧ Fr (NotP Q) w w' := by
  obtain ⟨R, ⟨⟨S, ⟨A, c, hI, rfl⟩, hn1⟩, hlt⟩, hPR, h2⟩ := h.right okS
  refine (rbelow_any hI n (by omega)).mono ?_
  rintro e w' ⟨rfl, A', c', hI2, hF, hN⟩
  obtain ⟨a1, a2⟩ := At.step (I := ON) hn1 hlt ⟨A', c', hI2, rfl⟩ (hF.mono (fun k hk _ => .inl hk)) (nxt_of hN)
  exact ⟨rfl, h2 _ _ a1 a2, notP_mono hPR a2⟩
theorem list_t1 (l : List Rg) (k : Nat) (h : Two OS ON Q w p s q r) (hl : s.l = l) (hk : l.length = k) :
    Calls Try.prog 12 #[.pointer (some ⟨p, 0, none⟩)] w fun e w' => ∃ A c, e = .returned (.slice A k c) ∧ w'.ownsRow w.heap.size 33 2 (.slice A k c) k (rgv l) ∧ Two OS ON Q w' p s q r ∧ Below w.heap.size w w' := by
  subst hl hk
  obtain ⟨⟨S, ⟨A, c, hI, rfl⟩, hn1⟩, hlt⟩ := h.fst
  refine (list_any hI).mono ?_
  rintro e w' ⟨Ao, co, rfl, ho, bl⟩
  exact ⟨Ao, co, rfl, ho, h.below okS okN bl, bl⟩
theorem list_t2 (l : List Rg) (k : Nat) (h : Two OS ON Q w p s q r) (hl : rlst r.N = l) (hk : l.length = k) :
    Calls Try.prog 19 #[.pointer (some ⟨q, 0, none⟩)] w fun e w' => ∃ A c, e = .returned (.slice A k c) ∧ w'.ownsRow w.heap.size 33 2 (.slice A k c) k (rgv l) ∧ Two OS ON Q w' p s q r ∧ Below w.heap.size w w' := by
  obtain ⟨⟨S, ⟨A, c, hI, rfl⟩, hn1⟩, hlt⟩ := h.snd
  refine (rlist_any hI l k hl hk).mono ?_
  rintro e w' ⟨Ao, co, rfl, ho, bl⟩
  exact ⟨Ao, co, rfl, ho, h.below okS okN bl, bl⟩
theorem largest_t1 (n : Nat) (b : Bool) (h : Two OS ON Q w p s q r) (hn : (s.l.head?.map Rg.hi).getD 0 = n) (hb : (!s.l.isEmpty) = b) : Calls Try.prog 15 #[.pointer (some ⟨p, 0, none⟩)] w fun e w' => e = .returned (.tuple #[.int .u64 n, .bool b]) ∧ Still w w' := by
  obtain ⟨⟨S, ⟨A, c, hI, rfl⟩, hn1⟩, hlt⟩ := h.fst
  subst hn hb; exact largest_any hI
theorem has_t1 (n : Nat) (b : Bool) (h : Two OS ON Q w p s q r) (hb : s.has n = b) : Calls Try.prog 14 #[.pointer (some ⟨p, 0, none⟩), .int .u64 n] w fun e w' => e = .returned (.bool b) ∧ Below w.heap.size w w' := by
  obtain ⟨⟨S, ⟨A, c, hI, rfl⟩, hn1⟩, hlt⟩ := h.fst
  subst hb; exact has_any hI n
theorem has_t2 (n : Nat) (b : Bool) (h : Two OS ON Q w p s q r) (hb : r.has n = b) : Calls Try.prog 20 #[.pointer (some ⟨q, 0, none⟩), .int .u64 n] w fun e w' => e = .returned (.bool b) ∧ Still w w' := by
  obtain ⟨⟨S, ⟨A, c, hI, rfl⟩, hn1⟩, hlt⟩ := h.snd
  exact still_of0 (rhas_any hI n b hb)
end
/-! ### Where there is none -/
set_option maxHeartbeats 2000000 in
theorem zadd (n : Int) (w : World) : Calls Try.prog 11 #[.pointer none, .int .u64 n] w fun e w' => e = .returned (.bool false) ∧ Below w.heap.size w w' := by
  go_enter Try.func11, Try.ntmps11
  go_wp2_with fail
  go_ret
  exact ⟨rfl, (Below.refl _ w).alloc (Nat.le_refl _) _⟩
set_option maxHeartbeats 2000000 in
theorem zhas (n : Int) (w : World) : Calls Try.prog 14 #[.pointer none, .int .u64 n] w fun e w' => e = .returned (.bool false) ∧ Below w.heap.size w w' := by
  go_enter Try.func14, Try.ntmps14
  go_wp2_with fail
  go_ret
  exact ⟨rfl, (Below.refl _ w).alloc (Nat.le_refl _) _⟩
set_option maxHeartbeats 2000000 in
theorem zlist (w : World) : Calls Try.prog 12 #[.pointer none] w fun e w' => e = .returned (.slice none 0 0) ∧ w = w' := by
  go_enter Try.func12, Try.ntmps12
  go_wp2_with fail
  go_ret
  exact ⟨rfl, rfl⟩
set_option maxHeartbeats 2000000 in
theorem zlargest (w : World) : Calls Try.prog 15 #[.pointer none] w fun e w' => e = .returned (.tuple #[.int .u64 0, .bool false]) ∧ w = w' := by
  go_enter Try.func15, Try.ntmps15
  go_wp2_with fail
  go_ret2
  exact ⟨rfl, rfl⟩
end Go.Proofs.Ytdhdnpagdflgpaa
