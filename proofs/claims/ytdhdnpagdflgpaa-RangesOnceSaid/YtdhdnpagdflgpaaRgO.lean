/- ranges: two Sets beside one another. -/
import Derived.Test.YtdhdnpagdflgpaaRgG
namespace Go.Proofs.Ytdhdnpagdflgpaa
open Go.RowKit

/-- Two Sets, apart from one another and from P's blocks. -/
def TwoAt (P : Nat → Prop) (w : World) (ps : Nat) (s : Rs) (pt : Nat) (t : Rs) : Prop :=
  ∃ As cs At ct, IsSet w ps As cs s ∧ IsSet w pt At ct t ∧ (∀ k, OnB ps As k → ¬ P k ∧ ¬ OnB pt At k) ∧ (∀ k, OnB pt At k → ¬ P k) ∧ (∀ k, P k → k < w.heap.size) ∧ (s.Ok ∧ 1 ≤ s.most) ∧ (t.Ok ∧ 1 ≤ t.most)
section
variable {P : Nat → Prop} {w w' : World} {ps pt : Nat} {s t : Rs}
theorem TwoAt.swap (h : TwoAt P w ps s pt t) : TwoAt P w pt t ps s := by
  obtain ⟨As, cs, At, ct, h1, h2, h3, h4, h5, h6, h7⟩ := h
  exact ⟨At, ct, As, cs, h2, h1, fun k hk => ⟨h4 k hk, fun hs => (h3 k hs).2 hk⟩, fun k hk => (h3 k hk).1, h5, h7, h6⟩
theorem TwoAt.left (h : TwoAt P w ps s pt t) : ∃ Q : Nat → Prop, SetAt Q w ps s ∧ (∀ k, P k → Q k) ∧ ∀ w' s', SetAt Q w' ps s' → Fr (NotP Q) w w' → TwoAt P w' ps s' pt t := by
  obtain ⟨As, cs, At, ct, h1, h2, h3, h4, h5, h6, h7⟩ := h
  refine ⟨fun k => P k ∨ OnB pt At k, ⟨⟨As, cs, h1, fun k hk hq => ?_⟩, fun k hk => ?_, h6⟩, fun k hk => .inl hk, fun w' s' hs' F => ?_⟩
  · rcases hq with hq | hq
    · exact (h3 k hk).1 hq
    · exact (h3 k hk).2 hq
  · rcases hk with hk | hk
    · exact h5 k hk
    · exact h2.on_lt k hk
  · obtain ⟨⟨A', c', I', n'⟩, _, o'⟩ := hs'
    refine ⟨A', c', At, ct, I', h2.fr F (fun hn => hn (.inr (.inl rfl))) (fun a ha hn => hn (.inr (.inr ⟨a, ha, rfl⟩))), fun k hk => ⟨fun hp => n' k hk (.inl hp), fun hq => n' k hk (.inr hq)⟩, h4, fun k hk => by have := h5 k hk; have := F.size; omega, o', h7⟩
theorem TwoAt.below (h : TwoAt P w ps s pt t) (b : Below w.heap.size w w') : TwoAt P w' ps s pt t := by
  obtain ⟨As, cs, At, ct, h1, h2, h3, h4, h5, h6, h7⟩ := h
  exact ⟨As, cs, At, ct, h1.below b, h2.below b, h3, h4, fun k hk => by have := h5 k hk; have := b.size; omega, h6, h7⟩
/-- A write into blocks of P. -/
theorem TwoAt.fr {S : Nat → Prop} (h : TwoAt P w ps s pt t) (F : Fr S w w') (hS : ∀ k, S k → P k) : TwoAt P w' ps s pt t := by
  obtain ⟨As, cs, At, ct, h1, h2, h3, h4, h5, h6, h7⟩ := h
  exact ⟨As, cs, At, ct, h1.fr F (fun e => (h3 ps (.inl rfl)).1 (hS _ e)) (fun a ha e => (h3 _ (.inr ⟨a, ha, rfl⟩)).1 (hS _ e)), h2.fr F (fun e => h4 pt (.inl rfl) (hS _ e)) (fun a ha e => h4 _ (.inr ⟨a, ha, rfl⟩) (hS _ e)), h3, h4, fun k hk => by have := h5 k hk; have := F.size; omega, h6, h7⟩
/-- A new block may be guarded too. -/
theorem TwoAt.widen {Q : Nat → Prop} (h : TwoAt P w ps s pt t) (hQ : ∀ k, Q k → P k ∨ w.heap.size ≤ k) (b : Below w.heap.size w w') (hl : ∀ k, Q k → k < w'.heap.size) : TwoAt Q w' ps s pt t := by
  obtain ⟨As, cs, At, ct, h1, h2, h3, h4, h5, h6, h7⟩ := h
  refine ⟨As, cs, At, ct, h1.below b, h2.below b, fun k hk => ⟨fun hq => ?_, (h3 k hk).2⟩, fun k hk hq => ?_, hl, h6, h7⟩
  · rcases hQ k hq with e | e
    · exact (h3 k hk).1 e
    · have := h1.on_lt k hk; omega
  · rcases hQ k hq with e | e
    · exact h4 k hk e
    · have := h2.on_lt k hk; omega
theorem new_two (h : SetAt P w ps s) (most : Nat) (h1 : 1 ≤ most) (h2 : most ≤ 64) : Calls Try.prog 9 #[.int .i64 most] w fun e w' => ∃ pt, e = .returned (.pointer (some ⟨pt, 0, none⟩)) ∧ TwoAt P w' ps s pt (rsnew most) ∧ Below w.heap.size w w' := by
  obtain ⟨⟨A, c, hI, hn⟩, hlt, ho⟩ := h
  refine (new_any most w h1 h2).mono ?_
  rintro e w' ⟨rfl, hJ, hb⟩
  refine ⟨_, rfl, ⟨A, c, none, 0, hI.below hb, hJ, fun k hk => ⟨hn k hk, ?_⟩, ?_, fun k hk => by have := hlt k hk; have := hb.size; omega, ho, rsnew_ok most, h1⟩, hb⟩
  · rintro (e | ⟨a, ha, _⟩)
    · have := hI.on_lt k hk; omega
    · cases ha
  · rintro k (e | ⟨a, ha, _⟩) hp
    · have := hlt k hp; omega
    · cases ha
theorem add_two (s' : Rs) (h : TwoAt P w ps s pt t) (n : Nat) (hn : n ≤ 4611686018427387903) (hh : s.has n = false) (hs' : s.add n = s') : Calls Try.prog 11 #[.pointer (some ⟨ps, 0, none⟩), .int .u64 n] w fun e w' => e = .returned (.bool true) ∧ TwoAt P w' ps s' pt t ∧ Fr (NotP P) w w' := by
  obtain ⟨Q, hS, hPQ, back⟩ := h.left
  refine (add_at s' hS n hn hh hs').mono ?_
  rintro e w' ⟨rfl, hS', F⟩
  exact ⟨rfl, back w' s' hS' F, F.mono (fun k hk _ hp => hk (hPQ k hp))⟩
theorem addno_two (h : TwoAt P w ps s pt t) (n : Nat) (hn : 4611686018427387903 < n ∨ (n ≤ 4611686018427387903 ∧ s.has n = true)) : Calls Try.prog 11 #[.pointer (some ⟨ps, 0, none⟩), .int .u64 n] w fun e w' => e = .returned (.bool false) ∧ TwoAt P w' ps s pt t ∧ Below w.heap.size w w' := by
  obtain ⟨Q, hS, hPQ, back⟩ := h.left
  refine (addno_at hS n hn).mono ?_
  rintro e w' ⟨rfl, _, b⟩
  exact ⟨rfl, h.below b, b⟩
theorem list_two (l : List Rg) (h : TwoAt P w ps s pt t) (hl : s.l = l) : Calls Try.prog 12 #[.pointer (some ⟨ps, 0, none⟩)] w fun e w' => ∃ A c, e = .returned (.slice A l.length c) ∧ w'.ownsRow w.heap.size 33 2 (.slice A l.length c) l.length (rgv l) ∧ TwoAt P w' ps s pt t ∧ Below w.heap.size w w' := by
  obtain ⟨Q, hS, hPQ, back⟩ := h.left
  refine (list_at l hS hl).mono ?_
  rintro e w' ⟨A, c, rfl, o, _, b⟩
  exact ⟨A, c, rfl, o, h.below b, b⟩
end
end Go.Proofs.Ytdhdnpagdflgpaa
