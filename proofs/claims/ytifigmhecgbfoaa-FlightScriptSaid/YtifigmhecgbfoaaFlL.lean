/- flight: the methods' contracts in the form in which the laws use them. -/
import Derived.Test.YtifigmhecgbfoaaFlK
import Derived.Test.YtifigmhecgbfoaaSameN
namespace Go.Proofs.Ytifigmhecgbfoaa
open Go.RowKit

/-- Rows that are no part of a Flight stay. -/
def Kp (w w' : World) : Prop := ∀ (b : Nat) (e : TypeId) (s : Nat) (v : Value) (n : Nat) (xs : List Value), (e == 60) = false → (e == 62) = false → w.ownsRow b e s v n xs → w'.ownsRow b e s v n xs
theorem Kp.trans {a b c : World} (h : Kp a b) (k : Kp b c) : Kp a c := fun _ _ _ _ _ _ h1 h2 ho => k _ _ _ _ _ _ h1 h2 (h _ _ _ _ _ _ h1 h2 ho)
theorem Kp.below {w w' : World} (h : Below w.heap.size w w') : Kp w w' := fun _ _ _ _ _ _ _ _ ho => own_fr ho (Fr.of_below h NoS) (fun _ _ x => x)
theorem kp_fl {w w' : World} {p : Nat} {A : Option Addr} {c : Nat} {f : Fl} (h : IsFl w p A c f) (hf : Fr (OnFl p A) w w') : Kp w w' := by
  intro b e s v n xs h1 h2 ho
  refine own_fr ho hf (fun k hk hon => ?_)
  rcases ho.2 with ⟨hv, _⟩ | ⟨g, cap, cur, hv, _, hg, _⟩
  · subst hv; cases hk
  · subst hv
    injection hk with hk
    simp only at hk
    subst hk
    rcases hon with rfl | ⟨a, ha, hb⟩
    · have := h.cell
      rw [hg] at this
      injection this with this
      injection this with _ h3
      rw [h3] at h1
      simp at h1
    · rcases h.row.2 with ⟨h4, _⟩ | ⟨g3, cap3, cur3, hv3, _, hg3, _⟩
      · injection h4 with h4; rw [h4] at ha; cases ha
      · injection hv3 with hA
        rw [hA] at ha
        injection ha with ha
        subst ha
        simp only at hb
        subst hb
        rw [hg] at hg3
        injection hg3 with this
        injection this with _ h3
        rw [h3] at h2
        simp at h2

/-- A Flight that was made in the call; what was there before it lies as it lay. -/
def FlAt (B : Nat) (w0 w : World) (p : Nat) (f : Fl) : Prop := ∃ A c, IsFl w p A c f ∧ (∀ k, OnFl p A k → B ≤ k) ∧ Below B w0 w ∧ B ≤ w.heap.size

section
variable {B : Nat} {w0 w w' : World} {p : Nat} {f : Fl}
theorem FlAt.bl (h : FlAt B w0 w p f) : Below B w0 w := h.choose_spec.choose_spec.2.2.1
theorem FlAt.step {A : Option Addr} {c : Nat} (hI : IsFl w p A c f) (ho : ∀ k, OnFl p A k → B ≤ k) (hb : Below B w0 w) (hB : B ≤ w.heap.size) {A' : Option Addr} {c' : Nat} {f' : Fl} (I' : IsFl w' p A' c' f') (F : Fr (OnFl p A) w w') (N : Next w A A') : FlAt B w0 w' p f' :=
  ⟨A', c', I', fun k hk => by
    rcases hk with rfl | ⟨a, ha, rfl⟩
    · exact ho _ (.inl rfl)
    · rcases N a ha with ⟨b, hb1, hb2⟩ | h2
      · exact ho _ (.inr ⟨b, hb1, hb2⟩)
      · omega, F.under hb hB (fun k hk _ => ho k hk), by have := F.size; omega⟩
theorem FlAt.below (h : FlAt B w0 w p f) (b : Below w.heap.size w w') : FlAt B w0 w' p f := by
  obtain ⟨A, c, hI, ho, hb, hB⟩ := h
  exact ⟨A, c, hI.below b, ho, hb.trans (b.mono hB), Nat.le_trans hB b.size⟩
theorem FlAt.alloc (h : FlAt B w0 w p f) (o : Obj) : FlAt B w0 (w.alloc o) p f := h.below ((Below.refl _ w).alloc (Nat.le_refl _) o)
theorem FlAt.grown (h : FlAt B w0 w p f) {b : Nat} {e : TypeId} {s : Nat} {v : Value} {n : Nat} {xs : List Value} (hb0 : B ≤ b) (ho : w.ownsRow b e s v n xs) (h1 : (e == 60) = false) (h2 : (e == 62) = false) {o : Obj} (hg : (w.alloc o).grownBy w' v.ownBlock) : FlAt B w0 w' p f := by
  obtain ⟨A, c, hI, hon, hb, hB⟩ := h
  have F : Fr (fun k => v.ownBlock = some k) w w' := ((Fr.refl _ w).alloc o).grown hg (fun k hk _ => hk)
  have hap : ∀ k, v.ownBlock = some k → ¬ OnFl p A k := fun k hk hon => by
    rcases ho.2 with ⟨hv, _⟩ | ⟨g, cap, cur, hv, _, hgr, _⟩
    · subst hv; cases hk
    · subst hv
      injection hk with hk
      simp only at hk
      subst hk
      rcases hon with rfl | ⟨a, ha, hb⟩
      · have := hI.cell
        rw [hgr] at this
        injection this with this
        injection this with _ h3
        rw [h3] at h1
        simp at h1
      · rcases hI.row.2 with ⟨h4, _⟩ | ⟨g3, cap3, cur3, hv3, _, hg3, _⟩
        · injection h4 with h4; rw [h4] at ha; cases ha
        · injection hv3 with hA
          rw [hA] at ha
          injection ha with ha
          subst ha
          simp only at hb
          subst hb
          rw [hgr] at hg3
          injection hg3 with this
          injection this with _ h3
          rw [h3] at h2
          simp at h2
  exact ⟨A, c, hI.fr F (fun e => hap p e (.inl rfl)) (fun a ha e => hap _ e (.inr ⟨a, ha, rfl⟩)), hon, F.under hb hB (fun k hk _ => Nat.le_trans hb0 (ho.lt k hk).1), by have := F.size; omega⟩

theorem new_at (B : Nat) (w0 w : World) (hb : Below B w0 w) (hB : B ≤ w.heap.size) : Calls Try.prog 9 #[] w fun e w' => ∃ p, e = .returned (.pointer (some ⟨p, 0, none⟩)) ∧ FlAt B w0 w' p fnew ∧ Kp w w' := by
  refine (new_any w).mono ?_
  rintro e w' ⟨rfl, hI, hb'⟩
  refine ⟨_, rfl, ⟨none, 0, hI, fun k hk => ?_, hb.trans (hb'.mono hB), Nat.le_trans hB hb'.size⟩, Kp.below hb'⟩
  rcases hk with rfl | ⟨a, ha, _⟩
  · exact hB
  · cases ha
theorem sent_at (f' : Fl) (h : FlAt B w0 w p f) (num tick : Nat) (cnt : Bool) (hs : f.l.length < 100000) (ht : tick ≤ 9223372036854775807) (ho : fsentok f num tick = true) (hf : fsent f num tick cnt = f') :
    Calls Try.prog 10 #[.pointer (some ⟨p, 0, none⟩), .int .u64 num, .int .i64 tick, .bool cnt] w fun e w' => e = .returned (.bool true) ∧ FlAt B w0 w' p f' ∧ Kp w w' := by
  obtain ⟨A, c, hI, hon, hb, hB⟩ := h
  refine (sent_yes hI num tick cnt hs ht ho).mono ?_
  rintro e w' ⟨rfl, A', c', I', F, N⟩
  rw [hf] at I'
  exact ⟨rfl, FlAt.step hI hon hb hB I' F N, kp_fl hI F⟩
theorem sentno_at (h : FlAt B w0 w p f) (num : Nat) (tick : Int) (cnt : Bool) (hn : num < 18446744073709551616) (ho : fsentok f num tick = false) :
    Calls Try.prog 10 #[.pointer (some ⟨p, 0, none⟩), .int .u64 num, .int .i64 tick, .bool cnt] w fun e w' => e = .returned (.bool false) ∧ w = w' := by
  obtain ⟨A, c, hI, _⟩ := h
  exact sent_no hI num tick cnt hn ho
theorem under_at (n : Nat) (h : FlAt B w0 w p f) (hn : f.l.length = n) : Calls Try.prog 13 #[.pointer (some ⟨p, 0, none⟩)] w fun e w' => e = .returned (.int .i64 n) ∧ w = w' := by
  obtain ⟨A, c, hI, _⟩ := h
  rw [← hn]; exact under_any hI
theorem largest_at (n : Nat) (b : Bool) (h : FlAt B w0 w p f) (hn : f.largest = n) (hb : f.came = b) : Calls Try.prog 16 #[.pointer (some ⟨p, 0, none⟩)] w fun e w' => e = .returned (.tuple #[.int .u64 n, .bool b]) ∧ Still w w' := by
  obtain ⟨A, c, hI, _⟩ := h
  rw [← hn, ← hb]; exact still_of (largest_any hI)
theorem age_at (t : Nat) (b : Bool) (h : FlAt B w0 w p f) (num : Nat) (ht : (fage f num).getD 0 = t) (hb : (fage f num).isSome = b) : Calls Try.prog 21 #[.pointer (some ⟨p, 0, none⟩), .int .u64 num] w fun e w' => e = .returned (.tuple #[.int .i64 t, .bool b]) ∧ FlAt B w0 w' p f ∧ Below w.heap.size w w' := by
  obtain ⟨A, c, hI, hon, hb0, hB⟩ := h
  rw [← ht, ← hb]
  refine (age_any hI num).mono ?_
  rintro e w' ⟨rfl, hb'⟩
  exact ⟨rfl, FlAt.below ⟨A, c, hI, hon, hb0, hB⟩ hb', hb'⟩
theorem lost_at (f' : Fl) (ts : List Nat) (h : FlAt B w0 w p f) (tick pto : Int) (hT : tick ≤ 9223372036854775807) (hts : fnums f (qlost f.came f.largest tick (max pto 1)) = ts) (hf : ftake f (qlost f.came f.largest tick (max pto 1)) = f') :
    Calls Try.prog 11 #[.pointer (some ⟨p, 0, none⟩), .int .i64 tick, .int .i64 pto] w fun e w' =>
      ∃ Ao co, e = .returned (.slice Ao ts.length co) ∧ w'.ownsRow B 27 1 (.slice Ao ts.length co) ts.length (nv ts) ∧ FlAt B w0 w' p f' ∧ Kp w w' := by
  obtain ⟨A, c, hI, hon, hb, hB⟩ := h
  refine (lost_any hI tick pto hT).mono ?_
  rintro e w' ⟨Ao, co, rfl, ho, A', c', I', F, N⟩
  rw [hf] at I'
  rw [hts] at ho ⊢
  exact ⟨Ao, co, rfl, own_base ho (fun k hk => Nat.le_trans hB (ho.lt k hk).1), FlAt.step hI hon hb hB I' F N, kp_fl hI F⟩
theorem came_at (f' : Fl) (ts : List Nat) (h : FlAt B w0 w p f) (rs : List Rg) (R : Option Addr) (cr : Nat) (hr : Rd w R (rgv rs)) (hRA : 0 < rs.length → ∀ a, R = some a → a.block ≠ p ∧ w.heap[a.block]? ≠ none ∧ ∀ cs m, w.heap[a.block]? ≠ some (.cells cs 62 m)) (hl : rs.length ≤ 1000000) (hgood : rs.any (rbad f) = false)
    (hts : fnums f (qcame rs) = ts) (hf : ftake (fheard f rs) (qcame rs) = f') :
    Calls Try.prog 15 #[.pointer (some ⟨p, 0, none⟩), .slice R rs.length cr] w fun e w' =>
      ∃ Ao co, e = .returned (.tuple #[.slice Ao ts.length co, .bool true]) ∧ w'.ownsRow B 27 1 (.slice Ao ts.length co) ts.length (nv ts) ∧ FlAt B w0 w' p f' ∧ Kp w w' := by
  obtain ⟨A, c, hI, hon, hb, hB⟩ := h
  refine (came_yes hI rs R cr hr (fun hn a ha ho => ?_) hl hgood).mono ?_
  · obtain ⟨h1, _, h3⟩ := hRA hn a ha
    rcases ho with h2 | ⟨b, hb1, hb2⟩
    · exact h1 h2
    · rcases hI.row.2 with ⟨h4, _⟩ | ⟨g3, cap3, cur3, hv3, _, hg3, _⟩
      · injection h4 with h4; rw [h4] at hb1; cases hb1
      · injection hv3 with hA
        rw [hA] at hb1
        injection hb1 with hb1
        subst hb1
        simp only at hb2
        rw [← hb2] at h3
        exact h3 _ _ hg3
  · rintro e w' ⟨Ao, co, rfl, ho, A', c', I', F, N⟩
    rw [hf] at I'
    rw [hts] at ho ⊢
    exact ⟨Ao, co, rfl, own_base ho (fun k hk => Nat.le_trans hB (ho.lt k hk).1), FlAt.step hI hon hb hB I' F N, kp_fl hI F⟩
theorem cameno_at (h : FlAt B w0 w p f) (rs : List Rg) (R : Option Addr) (cr : Nat) (hr : Rd w R (rgv rs)) (hl : rs.length ≤ 1000000) (hbad : rs.any (rbad f) = true) :
    Calls Try.prog 15 #[.pointer (some ⟨p, 0, none⟩), .slice R rs.length cr] w fun e w' => e = .returned (.tuple #[.slice none 0 0, .bool false]) ∧ FlAt B w0 w' p f ∧ Below w.heap.size w w' := by
  obtain ⟨A, c, hI, hon, hb, hB⟩ := h
  refine (came_no hI rs R cr hr hl hbad).mono ?_
  rintro e w' ⟨rfl, hb'⟩
  exact ⟨rfl, FlAt.below ⟨A, c, hI, hon, hb, hB⟩ hb', hb'⟩
end
end Go.Proofs.Ytifigmhecgbfoaa
