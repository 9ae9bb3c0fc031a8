/- Two tables beside one another, and a list of what came: what each call makes of them. -/
import Derived.Test.YtgcnhppafclnmaaTbG
namespace Go.Proofs.Ytgcnhppafclnmaa
open Go.RowKit

structure TwSt (w wr : World) (P : Nat → Prop) (pa pb : Nat) (A : Option Addr) (n c : Nat) (tl tr : Tb) (F : List Fd) : Prop where
  two : Two IsTbS IsTbS P wr pa tl pb tr
  own : wr.ownsRow w.heap.size 28 2 (.slice A n c) n (fdv F)
  below : Below w.heap.size w wr
  guard : ∀ q, q < w.heap.size → P q
  gA : ∀ q, (Value.slice A n c).ownBlock = some q → P q
section
variable {w wr w' : World} {P : Nat → Prop} {pa pb : Nat} {A : Option Addr} {n c : Nat} {tl tr tl' tr' : Tb} {F : List Fd}
theorem TwSt.to (h : TwSt w wr P pa pb A n c tl tr F) (T : Two IsTbS IsTbS P w' pa tl' pb tr') (f : Fr (NotP P) wr w') : TwSt w w' P pa pb A n c tl' tr' F :=
  ⟨T, own_fr h.own f (fun k hk x => x (h.gA k hk)), fp_below h.below h.below.size h.guard f, h.guard, h.gA⟩
theorem TwSt.bel (h : TwSt w wr P pa pb A n c tl tr F) (b : Below wr.heap.size wr w') : TwSt w w' P pa pb A n c tl tr F :=
  h.to (h.two.below tbOk tbOk b) (Fr.of_below b _)
theorem TwSt.fin (h : TwSt w wr P pa pb A n c tl tr F) : n ≤ c ∧ c ≤ maxLen := by
  obtain ⟨A', c', e, h1, h2⟩ := own_shape wr h.own
  injection e with e1 e2 e3
  subst e1 e3
  exact ⟨h1, h2⟩
theorem twi_l (h : TwSt w wr P pa pb A n c tl tr F) (t' : Tb) (p : Bool) (a b : ByteArray) (s : Nat) (hs : a.size + b.size + 32 = s) (hb : s ≤ 1000000) (hF : tl.F.length < 1000000) (hp : decide (s ≤ tl.most) = p) (ht : tl.ins ⟨a, b⟩ = t') :
    Calls Try.prog 10 #[.pointer (some ⟨pa, 0, none⟩), .agg #[.string a, .string b]] wr fun e w' => e = .returned (.bool p) ∧ TwSt w w' P pa pb A n c t' tr F := by
  obtain ⟨R, hA, hPR, back⟩ := h.two.left tbOk
  rcases Nat.lt_or_ge tl.most s with hm | hm
  · rw [decide_eq_false (by omega)] at hp
    have e : tl.ins ⟨a, b⟩ = tl := tl.ins_no _ (by unfold Fd.size; simp only; omega)
    rw [e] at ht
    subst hp ht
    refine (insno_at hA a b s hs hb hm).mono ?_
    rintro e w' ⟨rfl, H, bb⟩
    exact ⟨rfl, h.to (back w' _ H (Fr.of_below bb _)) (Fr.of_below bb _)⟩
  · rw [decide_eq_true hm] at hp
    subst hp
    refine (ins_at t' hA a b s hs hm hF ht).mono ?_
    rintro e w' ⟨rfl, H, f⟩
    exact ⟨rfl, h.to (back w' _ H f) (f.mono (fun k hk _ hq => hk (hPR k hq)))⟩
theorem twi_r (h : TwSt w wr P pa pb A n c tl tr F) (t' : Tb) (p : Bool) (a b : ByteArray) (s : Nat) (hs : a.size + b.size + 32 = s) (hb : s ≤ 1000000) (hF : tr.F.length < 1000000) (hp : decide (s ≤ tr.most) = p) (ht : tr.ins ⟨a, b⟩ = t') :
    Calls Try.prog 10 #[.pointer (some ⟨pb, 0, none⟩), .agg #[.string a, .string b]] wr fun e w' => e = .returned (.bool p) ∧ TwSt w w' P pa pb A n c tl t' F := by
  obtain ⟨R, hA, hPR, back⟩ := h.two.right tbOk
  rcases Nat.lt_or_ge tr.most s with hm | hm
  · rw [decide_eq_false (by omega)] at hp
    have e : tr.ins ⟨a, b⟩ = tr := tr.ins_no _ (by unfold Fd.size; simp only; omega)
    rw [e] at ht
    subst hp ht
    refine (insno_at hA a b s hs hb hm).mono ?_
    rintro e w' ⟨rfl, H, bb⟩
    exact ⟨rfl, h.to (back w' _ H (Fr.of_below bb _)) (Fr.of_below bb _)⟩
  · rw [decide_eq_true hm] at hp
    subst hp
    refine (ins_at t' hA a b s hs hm hF ht).mono ?_
    rintro e w' ⟨rfl, H, f⟩
    exact ⟨rfl, h.to (back w' _ H f) (f.mono (fun k hk _ hq => hk (hPR k hq)))⟩
theorem twf_l (h : TwSt w wr P pa pb A n c tl tr F) (a b : ByteArray) :
    Calls Try.prog 17 #[.pointer (some ⟨pa, 0, none⟩), .agg #[.string a, .string b]] wr fun e w' => (∃ v, e = .returned v) ∧ TwSt w w' P pa pb A n c tl tr F := by
  obtain ⟨⟨x, b1, b2⟩, hf⟩ : ∃ q, tl.find ⟨a, b⟩ = q := ⟨_, rfl⟩
  refine (find_at x b1 b2 h.two.fst a b hf).mono ?_
  rintro e w' ⟨rfl, -, bb⟩
  exact ⟨⟨_, rfl⟩, h.bel bb⟩
theorem twg_l (h : TwSt w wr P pa pb A n c tl tr F) (k : Nat) (hk : k < 18446744073709551616) :
    Calls Try.prog 9 #[.pointer (some ⟨pa, 0, none⟩), .int .u64 k] wr fun e w' => (∃ v, e = .returned v) ∧ TwSt w w' P pa pb A n c tl tr F := by
  obtain ⟨⟨x, y⟩, hf⟩ : ∃ q, (tl.get k).getD fd0 = q := ⟨_, rfl⟩
  refine (get_at x y _ h.two.fst k hk hf rfl).mono ?_
  rintro e w' ⟨rfl, -, bb⟩
  exact ⟨⟨_, rfl⟩, h.bel bb⟩
theorem tws_l (h : TwSt w wr P pa pb A n c tl tr F) (a b : ByteArray) (s : Nat) (hs : a.size + b.size + 32 = s) (hb : s ≤ 1000000) :
    Calls Try.prog 15 #[.agg #[.string a, .string b]] wr fun e w' => e = .returned (.int .i64 s) ∧ TwSt w w' P pa pb A n c tl tr F := by
  refine (size_at a b s wr hs hb).mono ?_
  rintro e w' ⟨rfl, bb⟩
  exact ⟨rfl, h.bel bb⟩
theorem twl_l (h : TwSt w wr P pa pb A n c tl tr F) (l : List Fd) (q : Nat) (hl : tl.l = l) (hq : l.length = q) :
    Calls Try.prog 20 #[.pointer (some ⟨pa, 0, none⟩)] wr fun e w' => ∃ A1 c1, e = .returned (.slice A1 q c1) ∧ Rd w' A1 (fdv l) ∧ TwSt w w' P pa pb A n c tl tr F := by
  refine (tlist_at l q h.two.fst hl hq).mono ?_
  rintro e w' ⟨A1, c1, rfl, o1, -, bb⟩
  exact ⟨A1, c1, rfl, Rd.of_ownS o1, h.bel bb⟩
theorem twl_r (h : TwSt w wr P pa pb A n c tl tr F) (l : List Fd) (q : Nat) (hl : tr.l = l) (hq : l.length = q) :
    Calls Try.prog 20 #[.pointer (some ⟨pb, 0, none⟩)] wr fun e w' => ∃ A1 c1, e = .returned (.slice A1 q c1) ∧ Rd w' A1 (fdv l) ∧ TwSt w w' P pa pb A n c tl tr F := by
  refine (tlist_at l q h.two.snd hl hq).mono ?_
  rintro e w' ⟨A1, c1, rfl, o1, -, bb⟩
  exact ⟨A1, c1, rfl, Rd.of_ownS o1, h.bel bb⟩
theorem twq (h : TwSt w wr P pa pb A n c tl tr F) (l : List Fd) (q : Nat) (hq : l.length = q) (A1 A2 : Option Addr) (c1 c2 : Nat) (h1 : Rd wr A1 (fdv l)) (h2 : Rd wr A2 (fdv l)) (hb : q ≤ 1000000) :
    Calls Try.prog 21 #[.slice A1 q c1, .slice A2 q c2] wr fun e w' => e = .returned (.bool true) ∧ TwSt w w' P pa pb A n c tl tr F := by
  refine (samef_n true l l q q hq hq A1 A2 c1 c2 wr h1 h2 hb hb (decide_eq_true rfl)).mono ?_
  rintro e w' ⟨rfl, bb⟩
  exact ⟨rfl, h.bel bb.below⟩
theorem twu_l (h : TwSt w wr P pa pb A n c tl tr F) (s : Nat) (hu : tl.used = s) :
    Calls Try.prog 13 #[.pointer (some ⟨pa, 0, none⟩)] wr fun e w' => e = .returned (.int .i64 s) ∧ TwSt w w' P pa pb A n c tl tr F := by
  refine (used_at s h.two.fst hu).mono ?_
  rintro e w' ⟨rfl, rfl⟩
  exact ⟨rfl, h⟩
theorem twa (h : TwSt w wr P pa pb A n c tl tr F) :
    Calls Try.prog 7 #[] wr fun e w' => e = .returned (.bool true) ∧ TwSt w w' P pa pb A n c tl tr F := by
  refine (awake_any wr).mono ?_
  rintro e w' ⟨rfl, bb⟩
  exact ⟨rfl, h.bel bb⟩
theorem TwSt.app (h : TwSt w wr P pa pb A n c tl tr F) (o : Obj) (a b : ByteArray) (A3 : Option Addr) (c3 : Nat) (w3 : World)
    (o3 : w3.ownsRow w.heap.size 28 2 (.slice A3 (n + 1) c3) (n + 1) (fdv F ++ [.string a, .string b])) (g3 : (wr.alloc o).grownBy w3 (Value.slice A n c).ownBlock)
    (hat : (Value.slice A3 (n + 1) c3).ownBlock = (Value.slice A n c).ownBlock ∨ (Value.slice A3 (n + 1) c3).ownBlock = some (wr.alloc o).heap.size) : ∃ P', TwSt w w3 P' pa pb A3 (n + 1) c3 tl tr (F ++ [⟨a, b⟩]) := by
  have f : Fr (fun q => (Value.slice A n c).ownBlock = some q) wr w3 := ((Fr.refl _ wr).alloc o).grown g3 (fun _ hq _ => hq)
  refine ⟨fun q => P q ∨ (wr.heap.size ≤ q ∧ q < w3.heap.size), h.two.widenF tbOk tbOk f (fun k _ hk => h.gA k hk) (fun k hk => ?_) (fun k hk => ?_), ?_, Fr.under h.below h.below.size f (fun q hq _ => (h.own.lt q hq).1), fun q hq => .inl (h.guard q hq), fun q hq => ?_⟩
  · rcases hk with h1 | h1
    · exact .inl h1
    · exact .inr h1.1
  · rcases hk with h1 | h1
    · have := h.two.fst.2 k h1
      have := f.size
      omega
    · exact h1.2
  · rw [fdv_append]; exact o3
  · have hl := (o3.lt q hq).2
    rcases hat with e | e
    · rw [e] at hq; exact .inl (h.gA q hq)
    · rw [e] at hq
      injection hq with hq
      rw [World.size_alloc] at hq
      exact .inr ⟨by omega, hl⟩
/-- Two new ones. -/
theorem TwSt.start {w1 w2 : World} {M : Nat} (h1 : At IsTbS (fun k => k < w.heap.size) w1 pa (tnew M)) (b1 : Below w.heap.size w w1)
    (h2 : At IsTbS (fun k => k < w1.heap.size) w2 pb (tnew M)) (b2 : Below w1.heap.size w1 w2) : TwSt w w2 (fun k => k < w.heap.size) pa pb none 0 0 (tnew M) (tnew M) [] := by
  refine ⟨?_, World.ownsRow_nil _ _ _ _, b1.trans (b2.mono b1.size), fun q h => h, fun q hq => by simp [Value.ownBlock] at hq⟩
  obtain ⟨⟨T, hT, hn⟩, hlt⟩ := h2
  exact Two.new tbOk h1 hT b2 (fun k hk => Nat.le_of_not_lt (hn k hk))
end
theorem ins_twin (t : Tb) (a b : ByteArray) (s : Nat) (hs : a.size + b.size + 32 = s) : (s ≤ t.most → (t.ins ⟨a, b⟩).F = t.F ++ [⟨a, b⟩]) ∧ (t.most < s → t.ins ⟨a, b⟩ = t) := by
  constructor
  · intro h
    rw [t.ins_yes _ (by unfold Fd.size; simp only; omega)]
  · intro h
    exact t.ins_no _ (by unfold Fd.size; simp only; omega)
end Go.Proofs.Ytgcnhppafclnmaa
