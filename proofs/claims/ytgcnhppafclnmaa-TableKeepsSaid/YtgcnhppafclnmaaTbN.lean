/- TableKeeps: the table, all that came, and the field at hand: what each call makes of them. -/
import Derived.Test.YtgcnhppafclnmaaTbJ
namespace Go.Proofs.Ytgcnhppafclnmaa
open Go.RowKit

structure KpSt (w wr : World) (P : Nat → Prop) (p : Nat) (T : Tb) (A : Option Addr) (n c : Nat) (F : List Fd) (fb : Nat) (a b : ByteArray) : Prop where
  at_ : At IsTbS P wr p T
  own : wr.ownsRow w.heap.size 28 2 (.slice A n c) n (fdv F)
  below : Below w.heap.size w wr
  guard : ∀ q, q < w.heap.size → P q
  gA : ∀ q, (Value.slice A n c).ownBlock = some q → P q
  box : HasRow wr fb 28 #[.string a, .string b]
  gF : P fb
  ne : ∀ q, (Value.slice A n c).ownBlock = some q → q ≠ fb
section
variable {w wr w' : World} {P : Nat → Prop} {p : Nat} {T T' : Tb} {A : Option Addr} {n c : Nat} {F : List Fd} {fb : Nat} {a b : ByteArray}
theorem KpSt.to (h : KpSt w wr P p T A n c F fb a b) (H : At IsTbS P w' p T') (f : Fr (NotP P) wr w') : KpSt w w' P p T' A n c F fb a b :=
  ⟨H, own_fr h.own f (fun k hk x => x (h.gA k hk)), fp_below h.below h.below.size h.guard f, h.guard, h.gA, h.box.fr f (fun x => x h.gF), h.gF, h.ne⟩
theorem KpSt.bel (h : KpSt w wr P p T A n c F fb a b) (B : Below wr.heap.size wr w') : KpSt w w' P p T A n c F fb a b := h.to (h.at_.below tbOk B) (Fr.of_below B _)
theorem KpSt.fin (h : KpSt w wr P p T A n c F fb a b) : n ≤ c ∧ c ≤ maxLen := by
  obtain ⟨A', c', e, h1, h2⟩ := own_shape wr h.own
  injection e with e1 e2 e3
  subst e1 e3
  exact ⟨h1, h2⟩
theorem KeSt.kp {An : Option Addr} {cn N : Nat} {wc : World} (h : KeSt w wr P p T An cn) (hN : T.F.length = N) (B : Below wr.heap.size wr wc) (hf : HasRow wc fb 28 #[.string a, .string b]) (hfb : wr.heap.size ≤ fb) :
    KpSt w wc (fun q => P q ∨ q = fb) p T An N cn T.F fb a b := by
  subst hN
  refine ⟨h.at_.widen tbOk (fun k hk => ?_) B (fun k hk => ?_), own_fr h.all (Fr.of_below B NoS) (fun _ _ x => x), h.bl.trans (B.mono h.bl.size), fun q hq => .inl (h.pw q hq), fun q hq => ?_, hf, .inr rfl, fun q hq => by have := (h.all.lt q hq).2; omega⟩
  · rcases hk with h1 | h1
    · exact .inl h1
    · exact .inr (by omega)
  · rcases hk with h1 | h1
    · have := h.at_.2 k h1; have := B.size; omega
    · subst h1; exact hf.lt
  · cases An with
    | none => cases hq
    | some x => injection hq with hq; subst hq; exact .inl (h.pa x rfl)
theorem KpSt.ke (h : KpSt w wr P p T A n c F fb a b) (hF : F = T.F) (hn : F.length = n) : KeSt w wr P p T A c := by
  subst hF hn
  exact ⟨h.at_, h.guard, h.own, fun x hx => h.gA _ (by rw [hx]; rfl), h.below⟩
theorem kp_ins (h : KpSt w wr P p T A n c F fb a b) (T' : Tb) (ft : Bool) (s : Nat) (hs : a.size + b.size + 32 = s) (hb : s ≤ 1000000) (hF : T.F.length < 1000000) (hp : decide (s ≤ T.most) = ft) (ht : T.ins ⟨a, b⟩ = T') :
    Calls Try.prog 10 #[.pointer (some ⟨p, 0, none⟩), .agg #[.string a, .string b]] wr fun e w' => e = .returned (.bool ft) ∧ KpSt w w' P p T' A n c F fb a b := by
  rcases Nat.lt_or_ge T.most s with hm | hm
  · rw [decide_eq_false (by omega)] at hp
    have e : T.ins ⟨a, b⟩ = T := T.ins_no _ (by unfold Fd.size; simp only; omega)
    rw [e] at ht
    subst hp ht
    refine (insno_at h.at_ a b s hs hb hm).mono ?_
    rintro e w' ⟨rfl, H, bb⟩
    exact ⟨rfl, h.bel bb⟩
  · rw [decide_eq_true hm] at hp
    subst hp
    refine (ins_at T' h.at_ a b s hs hm hF ht).mono ?_
    rintro e w' ⟨rfl, H, f⟩
    exact ⟨rfl, h.to H f⟩
theorem kp_used (h : KpSt w wr P p T A n c F fb a b) (s : Nat) (hu : T.used = s) :
    Calls Try.prog 13 #[.pointer (some ⟨p, 0, none⟩)] wr fun e w' => e = .returned (.int .i64 s) ∧ wr = w' := used_at s h.at_ hu
theorem kp_count (h : KpSt w wr P p T A n c F fb a b) (k : Nat) (hk : T.F.length = k) :
    Calls Try.prog 11 #[.pointer (some ⟨p, 0, none⟩)] wr fun e w' => e = .returned (.int .u64 k) ∧ KpSt w w' P p T A n c F fb a b ∧ Below wr.heap.size wr w' := by
  refine (count_at k h.at_ hk).mono ?_
  rintro e w' ⟨rfl, -, bb⟩
  exact ⟨rfl, h.bel bb, bb⟩
theorem kp_list (h : KpSt w wr P p T A n c F fb a b) (l : List Fd) (q : Nat) (hl : T.l = l) (hq : l.length = q) :
    Calls Try.prog 20 #[.pointer (some ⟨p, 0, none⟩)] wr fun e w' => ∃ A1 c1, e = .returned (.slice A1 q c1) ∧ Rd w' A1 (fdv l) ∧ KpSt w w' P p T A n c F fb a b := by
  refine (tlist_at l q h.at_ hl hq).mono ?_
  rintro e w' ⟨A1, c1, rfl, o1, -, bb⟩
  exact ⟨A1, c1, rfl, Rd.of_ownS o1, h.bel bb⟩
theorem kp_get (h : KpSt w wr P p T A n c F fb a b) (x y : ByteArray) (ok : Bool) (k : Nat) (hk : k < 18446744073709551616) (hf : (T.get k).getD fd0 = ⟨x, y⟩) (hb : (T.get k).isSome = ok) :
    Calls Try.prog 9 #[.pointer (some ⟨p, 0, none⟩), .int .u64 k] wr fun e w' => e = .returned (.tuple #[.agg #[.string x, .string y], .bool ok]) ∧ KpSt w w' P p T A n c F fb a b ∧ Below wr.heap.size wr w' := by
  refine (get_at x y ok h.at_ k hk hf hb).mono ?_
  rintro e w' ⟨rfl, -, bb⟩
  exact ⟨rfl, h.bel bb, bb⟩
theorem kp_find (h : KpSt w wr P p T A n c F fb a b) (k : Nat) (b1 b2 : Bool) (x y : ByteArray) (hf : T.find ⟨x, y⟩ = (k, b1, b2)) :
    Calls Try.prog 17 #[.pointer (some ⟨p, 0, none⟩), .agg #[.string x, .string y]] wr fun e w' => e = .returned (.tuple #[.int .u64 k, .bool b1, .bool b2]) ∧ KpSt w w' P p T A n c F fb a b ∧ Below wr.heap.size wr w' := by
  refine (find_at k b1 b2 h.at_ x y hf).mono ?_
  rintro e w' ⟨rfl, -, bb⟩
  exact ⟨rfl, h.bel bb, bb⟩
theorem kp_app (h : KpSt w wr P p T A n c F fb a b) (o : Obj) (A3 : Option Addr) (c3 : Nat) (w3 : World)
    (o3 : w3.ownsRow w.heap.size 28 2 (.slice A3 (n + 1) c3) (n + 1) (fdv F ++ [.string a, .string b])) (g3 : (wr.alloc o).grownBy w3 (Value.slice A n c).ownBlock)
    (hat : (Value.slice A3 (n + 1) c3).ownBlock = (Value.slice A n c).ownBlock ∨ (Value.slice A3 (n + 1) c3).ownBlock = some (wr.alloc o).heap.size) : ∃ P', KpSt w w3 P' p T A3 (n + 1) c3 (F ++ [⟨a, b⟩]) fb a b := by
  have f : Fr (fun q => (Value.slice A n c).ownBlock = some q) wr w3 := ((Fr.refl _ wr).alloc o).grown g3 (fun _ hq _ => hq)
  refine ⟨fun q => P q ∨ (wr.heap.size ≤ q ∧ q < w3.heap.size), h.at_.widenF tbOk f (fun k _ hk => h.gA k hk) (fun k hk => ?_) (fun k hk => ?_), ?_, Fr.under h.below h.below.size f (fun q hq _ => (h.own.lt q hq).1), fun q hq => .inl (h.guard q hq), fun q hq => ?_, h.box.fr f (fun e => h.ne _ e rfl), .inl h.gF, fun q hq => ?_⟩
  · rcases hk with h1 | h1
    · exact .inl h1
    · exact .inr h1.1
  · rcases hk with h1 | h1
    · have := h.at_.2 k h1
      have := f.size
      omega
    · exact h1.2
  · rw [fdv_append]; exact o3
  · have hl := (o3.lt q hq).2
    rcases hat with e | e
    · rw [e] at hq; exact .inl (h.gA q hq)
    · rw [e] at hq
      injection hq with hq
      rw [World.size_alloc] at hq
      exact .inr ⟨by omega, hl⟩
  · have hl := h.box.lt
    rcases hat with e | e
    · rw [e] at hq; exact h.ne q hq
    · rw [e] at hq
      injection hq with hq
      rw [World.size_alloc] at hq
      omega
end
end Go.Proofs.Ytgcnhppafclnmaa
