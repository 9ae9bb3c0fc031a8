/- The document's pool as an object; both pools beside one another: each call. -/
import Derived.Test.YtgmanhbfdjlhbaaCrD
import Derived.Test.YtgmanhbfdjlhbaaCdO
import Derived.Laws.OwnMore
namespace Go.Proofs.Ytgmanhbfdjlhbaa
open Go.RowKit

def OD (w : World) (p : Nat) (S : Nat → Prop) (r : Cd) : Prop := ∃ A c, IsRp w p A c r ∧ S = OnB p A
theorem okD : ObjOk OD :=
  ⟨fun ⟨A, c, h, e⟩ f hS => ⟨A, c, h.fr f (fun k hk => hS k (by rw [e]; exact hk)), e⟩, fun ⟨A, c, h, e⟩ k hk => by rw [e] at hk; exact h.on_lt k hk⟩
theorem notP_mono {P R : Nat → Prop} {w w' : World} (h : ∀ k, P k → R k) (f : Fr (NotP R) w w') : Fr (NotP P) w w' := f.mono (fun k hk _ hp => hk (h k hp))
theorem Two.leftG {σ τ : Type} {I : World → Nat → (Nat → Prop) → σ → Prop} {J : World → Nat → (Nat → Prop) → τ → Prop} (oj : ObjOk J) {P : Nat → Prop} {w : World} {p q : Nat} {s : σ} {t : τ} (h : Two I J P w p s q t) :
    ∃ R : Nat → Prop, At I R w p s ∧ (∀ k, P k → R k) ∧ ∀ w' s' (G : Nat → Prop), (∀ k, G k → w.heap.size ≤ k) → At I (fun k => R k ∨ G k) w' p s' → Fr (NotP R) w w' → Two I J (fun k => P k ∨ G k) w' p s' q t := by
  obtain ⟨S, T, h1, h2, h3, h4, h5⟩ := h
  refine ⟨fun k => P k ∨ T k, ⟨⟨S, h1, fun k hk hq => ?_⟩, fun k hk => ?_⟩, fun k hk => .inl hk, fun w' s' G hG hs' F => ?_⟩
  · rcases hq with hq | hq
    · exact (h3 k hk).1 hq
    · exact (h3 k hk).2 hq
  · rcases hk with hk | hk
    · exact h5 k hk
    · exact oj.lt h2 k hk
  · obtain ⟨⟨S', I', n'⟩, l'⟩ := hs'
    exact ⟨S', T, I', oj.fr h2 F (fun k hk hn => hn (.inr hk)), fun k hk => ⟨fun hp => n' k hk (hp.elim (fun x => .inl (.inl x)) .inr), fun hq => n' k hk (.inl (.inr hq))⟩,
      fun k hk hp => hp.elim (h4 k hk) (fun g => by have := oj.lt h2 k hk; have := hG k g; omega), fun k hk => hk.elim (fun x => l' k (.inl (.inl x))) (fun g => l' k (.inr g))⟩

/-! how many there are, how many are free -/
theorem cadd_len (s : Cd) (q : Nat) (c t : List UInt8) : (cadd s q c t).l.length ≤ s.l.length + 1 := by
  unfold cadd
  split
  · rw [(cins_perm _ _).length_eq]; simp
  · omega
theorem cadd_free {s : Cd} (h : cfree s.l ≤ 8) (q : Nat) (c t : List UInt8) : cfree (cadd s q c t).l ≤ 8 := by
  unfold cadd
  split
  · rename_i hN
    have h7 : cfree s.l ≠ 8 := by
      unfold caddN at hN
      rw [Bool.and_eq_true] at hN
      exact of_decide_eq_true hN.2
    show cfree (cins _ s.l) ≤ 8
    have e : cfree (cins ⟨q, c, t, -1, false⟩ s.l) = cfree s.l + 1 := by
      unfold cfree
      rw [(cins_perm _ _).countP_eq, List.countP_append, List.countP_singleton]
      rfl
    omega
  · exact h
theorem cfor_len (s : Cd) (q : Int) : (cforBy cpick s q).1.l.length = s.l.length := by
  unfold cforBy
  split
  · rfl
  · split
    · rfl
    · simp [cset]
theorem cset_free (l : List Nm) (k : Nat) (q : Int) (hq : ¬ q < 0) : cfree (cset l k q) ≤ cfree l := by
  unfold cfree cset
  rw [List.countP_map]
  refine List.countP_mono_left (fun x _ hx => ?_)
  simp only [Function.comp] at hx
  split at hx
  · simp [Nm.free] at hx; omega
  · exact hx
theorem cfor_free {s : Cd} (h : cfree s.l ≤ 8) (q : Int) : cfree (cforBy cpick s q).1.l ≤ 8 := by
  unfold cforBy
  split
  · exact h
  · split
    · exact h
    · exact Nat.le_trans (cset_free _ _ _ (by assumption)) h
theorem cret_len (s : Cd) : (cret s).1.l.length = s.l.length := by simp [cret]
theorem cret_free (s : Cd) : cfree (cret s).1.l = cfree s.l := by
  unfold cfree cret
  rw [List.countP_map]
  refine List.countP_congr (fun x _ => ?_)
  simp only [Function.comp]
  split <;> rfl
theorem sim_pos {s r : Cd} (h : SimC s r) (h0 : 0 < s.l.length) : 0 < r.l.length := by rw [← h.perm.length_eq]; exact h0
theorem sim_ne {s r : Cd} (h : SimC s r) : r.l.Pairwise NmNe := h.perm.pairwise h.ne (fun h => NmNe.symm h)
theorem ros_ret (r : Cd) : ros r.use r.l r.l.length = (rret r).2 := by unfold ros rret; rw [List.take_length]
theorem nmr_ret (r : Cd) : (⟨r.l.map (nmr r.use), r.use⟩ : Cd) = (rret r).1 := rfl

/-- What For hands back, as bytes. -/
def oD (o : Option (List UInt8)) : List UInt8 := o.getD []

section
variable {P : Nat → Prop} {w : World} {p q : Nat} {s r : Cd}
theorem cfor_at0 (s' : Cd) (o : Option (List UInt8)) (h : At OC P w p s) (y : Int) (hs : cforBy cpick s y = (s', o)) : Calls Try.prog 16 #[.pointer (some ⟨p, 0, none⟩), .int .i64 y] w fun e w' =>
    ∃ A2 c2, e = .returned (.tuple #[.slice A2 (oD o).length c2, .bool o.isSome]) ∧ w'.ownsRow w.heap.size 5 1 (.slice A2 (oD o).length c2) (oD o).length (bv (oD o)) ∧ At OC (fun k => P k ∨ (Value.slice A2 (oD o).length c2).ownBlock = some k) w' p s' ∧ Fr (NotP P) w w' := by
  cases o with
  | none =>
    refine (cforn_at s' h y hs).mono ?_
    rintro e w' ⟨rfl, rfl, hb⟩
    exact ⟨none, 0, rfl, World.ownsRow_nil _ _ _ _, (h.below okC hb).widen okC (fun k hk => hk.elim .inl (fun e => by cases e)) (Below.refl _ w') (fun k hk => hk.elim (fun e => by have := h.2 k e; have := hb.size; omega) (fun e => by cases e)), Fr.of_below hb _⟩
  | some id =>
    refine (cfory_at s' id h y hs).mono ?_
    rintro e w' ⟨A2, c2, rfl, o2, h8, H2, F2⟩
    have e8 : (oD (some id)).length = 8 := h8
    rw [e8]
    exact ⟨A2, c2, rfl, o2, H2, F2⟩
theorem radd_at (hA : At OD P w p r) (hl : r.l.length ≤ 99) (ne : r.l.Pairwise NmNe) (hf8 : cfree r.l ≤ 8) (y : Nat) (cid tok : List UInt8) (C B : Option Addr) (nc nb cc cb : Nat) (hnc : cid.length = nc) (hnb : tok.length = nb) (hC : Rd w C (bv cid)) (hB : Rd w B (bv tok)) :
    Calls Try.prog 14 #[.pointer (some ⟨p, 0, none⟩), .int .u64 (y : Int), .slice C nc cc, .slice B nb cb] w fun e w' => e = .returned (.int .i64 (caddE r.l y cid tok)) ∧ At OD P w' p (radd r y cid tok) ∧ Fr (NotP P) w w' := by
  obtain ⟨⟨S, ⟨A, c, hI, rfl⟩, hn⟩, hlt⟩ := hA
  subst hnc hnb
  by_cases hf : cid.length = 8 ∧ tok.length = 16
  · obtain ⟨h8, h16⟩ := hf
    rw [h8, h16]
    refine (radd_any0 hI hl ne hf8 y cid tok C B cc cb h8 h16 hC hB).mono ?_
    rintro e w' ⟨rfl, A', c', I', F', N'⟩
    refine ⟨rfl, At.step hn hlt ⟨A', c', I', rfl⟩ F' (fun k hk => ?_)⟩
    rcases hk with hk | ⟨a, ha, hk⟩
    · exact .inl (.inl hk)
    · rcases N' a ha with ⟨b, hb, e2⟩ | h2
      · exact .inl (.inr ⟨b, hb, by rw [e2]; exact hk⟩)
      · exact .inr (by omega)
  · refine (radd_form_any y C B _ cc _ cb w hf).mono ?_
    rintro e w' ⟨rfl, rfl⟩
    obtain ⟨f1, f2⟩ := radd_form (q := y) (use := r.use) (l := r.l) hf
    rw [f1, show radd r y cid tok = r from f2]
    exact ⟨rfl, ⟨⟨_, ⟨A, c, hI, rfl⟩, hn⟩, hlt⟩, Fr.refl _ _⟩
theorem rfor_at (r' : Cd) (o : Option (List UInt8)) (hA : At OD P w p r) (uq : r.l.Pairwise (fun a b => a.seq ≠ b.seq)) (y : Int) (hs : cforBy rpick r y = (r', o)) : Calls Try.prog 17 #[.pointer (some ⟨p, 0, none⟩), .int .i64 y] w fun e w' =>
    ∃ A2 c2, e = .returned (.tuple #[.slice A2 (oD o).length c2, .bool o.isSome]) ∧ Rd w' A2 (bv (oD o)) ∧ At OD P w' p r' ∧ Fr (NotP P) w w' := by
  obtain ⟨⟨S, ⟨A, c, hI, rfl⟩, hn⟩, hlt⟩ := hA
  unfold cforBy at hs
  split at hs
  · injection hs with h1 h2
    subst h1 h2
    refine (rfor_neg y (by assumption) w).mono ?_
    rintro e w' ⟨rfl, rfl⟩
    exact ⟨none, 0, rfl, Rd.nil _ _, ⟨⟨_, ⟨A, c, hI, rfl⟩, hn⟩, hlt⟩, Fr.refl _ _⟩
  · refine (rfor_any hI uq y (by omega)).mono ?_
    rintro e w' (⟨e1, rfl, st⟩ | ⟨x, A2, c2, e1, rfl, rd, I', F'⟩)
    · rw [e1] at hs
      injection hs with h1 h2
      subst h1 h2
      exact ⟨none, 0, rfl, Rd.nil _ _, At.still okD ⟨⟨_, ⟨A, c, hI, rfl⟩, hn⟩, hlt⟩ st, Fr.of_below st.below _⟩
    · rw [e1] at hs
      injection hs with h1 h2
      subst h1 h2
      obtain ⟨h3, h4⟩ := At.step (I := OD) hn hlt ⟨A, c, I', rfl⟩ F' (Nxt.refl w _)
      exact ⟨A2, c2, rfl, rd, h3, h4⟩
theorem rret_at (r' : Cd) (out : List Nat) (m : Nat) (hA : At OD P w p r) (h0 : 0 < r.l.length) (hs : rret r = (r', out)) (hm : out.length = m) : Calls Try.prog 21 #[.pointer (some ⟨p, 0, none⟩)] w fun e w' =>
    ∃ A2 c2, e = .returned (.slice A2 m c2) ∧ Rd w' A2 (nv out) ∧ At OD P w' p r' ∧ Fr (NotP P) w w' := by
  obtain ⟨⟨S, ⟨A, c, hI, rfl⟩, hn⟩, hlt⟩ := hA
  subst hm
  have e1 : ros r.use r.l r.l.length = out := by rw [ros_ret, hs]
  have e2 : (⟨r.l.map (nmr r.use), r.use⟩ : Cd) = r' := by rw [nmr_ret, hs]
  refine (rret_any hI h0).mono ?_
  rintro e w' ⟨A2, c2, rfl, o2, I2, F2⟩
  rw [e1] at o2 ⊢
  rw [e2] at I2
  obtain ⟨h3, h4⟩ := At.step (I := OD) hn hlt ⟨A, c, I2, rfl⟩ F2 (Nxt.refl w _)
  exact ⟨A2, c2, rfl, Rd.of_own o2, h3, h4⟩
end

/-- Both. -/
structure CdSt (P : Nat → Prop) (w : World) (p q : Nat) (s r : Cd) (k : Nat) : Prop where
  two : Two OC OD P w p s q r
  sim : SimC s r
  small : s.l.length ≤ k + 1
  few : cfree s.l ≤ 8
section
variable {P Q : Nat → Prop} {w w' : World} {p q k : Nat} {s r : Cd}
theorem CdSt.below (h : CdSt P w p q s r k) (b : Below w.heap.size w w') : CdSt P w' p q s r k := ⟨h.two.below okC okD b, h.sim, h.small, h.few⟩
theorem CdSt.still (h : CdSt P w p q s r k) (b : Still w w') : CdSt P w' p q s r k := h.below b.below
theorem CdSt.pos (h : CdSt P w p q s r k) : 0 < r.l.length := by
  obtain ⟨⟨S, ⟨A, c, l, _, e1, e2, _⟩, _⟩, _⟩ := h.two.fst
  refine sim_pos h.sim ?_
  rw [← e1]; simpa [nms] using e2
theorem CdSt.plt (h : CdSt P w p q s r k) : p < w.heap.size := by
  obtain ⟨⟨S, ⟨A, c, l, hI, _, _, _, e4⟩, _⟩, _⟩ := h.two.fst
  exact hI.on_lt p (.inl rfl)
/-- Add, ours: in the midst. -/
theorem add_t1 (v : Int) (s' : Cd) (h : CdSt P w p q s r k) (hk : k ≤ 90) (y : Nat) (cid tok : List UInt8) (C B : Option Addr) (nc nb cc cb : Nat) (hnc : cid.length = nc) (hnb : tok.length = nb) (hC : Rd w C (bv cid)) (hB : Rd w B (bv tok)) (hv : caddE s.l y cid tok = v) (hs' : cadd s y cid tok = s') :
    Calls Try.prog 11 #[.pointer (some ⟨p, 0, none⟩), .int .u64 (y : Int), .slice C nc cc, .slice B nb cb] w fun e w' => e = .returned (.int .i64 v) ∧ Two OC OD P w' p s' q r ∧ Fr (NotP P) w w' := by
  obtain ⟨R, h1, h2, h3⟩ := h.two.left okD
  refine (cadd_at v s' h1 y cid tok C B nc nb cc cb hnc hnb hC hB (by have := h.small; omega) hv hs').mono ?_
  rintro e w' ⟨rfl, H, F⟩
  exact ⟨rfl, h3 _ _ H F, notP_mono h2 F⟩
theorem add_t2 (v : Int) (s' : Cd) {w1 : World} (h : CdSt P w1 p q s r k) (hk : k ≤ 90) (h2 : Two OC OD P w p s' q r) (y : Nat) (cid tok : List UInt8) (C B : Option Addr) (nc nb cc cb : Nat) (hnc : cid.length = nc) (hnb : tok.length = nb) (hC : Rd w C (bv cid)) (hB : Rd w B (bv tok)) (hv : caddE s.l y cid tok = v) (hs' : cadd s y cid tok = s') :
    Calls Try.prog 14 #[.pointer (some ⟨q, 0, none⟩), .int .u64 (y : Int), .slice C nc cc, .slice B nb cb] w fun e w' => e = .returned (.int .i64 v) ∧ (∃ r', CdSt P w' p q s' r' (k + 1)) ∧ Fr (NotP P) w w' := by
  obtain ⟨R, h3, h4, h5⟩ := h2.right okC
  refine (radd_at h3 (by rw [← h.sim.perm.length_eq]; have := h.small; omega) (sim_ne h.sim) (by rw [← h.sim.free]; exact h.few) y cid tok C B nc nb cc cb hnc hnb hC hB).mono ?_
  rintro e w' ⟨rfl, H, F⟩
  rw [← h.sim.err, hv]
  refine ⟨rfl, ⟨_, h5 _ _ H F, ?_, ?_, ?_⟩, notP_mono h4 F⟩
  · rw [← hs']; exact h.sim.add y cid tok
  · rw [← hs']; have := cadd_len s y cid tok; have := h.small; omega
  · rw [← hs']; exact cadd_free h.few y cid tok
theorem for_t1 (s' : Cd) (o : Option (List UInt8)) (D : List UInt8) (n : Nat) (b : Bool) (h : CdSt P w p q s r k) (y : Int) (hs : cforBy cpick s y = (s', o)) (hD : oD o = D) (hn : D.length = n) (hb : o.isSome = b) : Calls Try.prog 16 #[.pointer (some ⟨p, 0, none⟩), .int .i64 y] w fun e w' =>
    ∃ A2 c2, e = .returned (.tuple #[.slice A2 n c2, .bool b]) ∧ w'.ownsRow w.heap.size 5 1 (.slice A2 n c2) n (bv D) ∧ Two OC OD (fun k => P k ∨ (Value.slice A2 n c2).ownBlock = some k) w' p s' q r ∧ Fr (NotP P) w w' := by
  subst hb hn hD
  obtain ⟨R, h1, h2, h3⟩ := h.two.leftG okD
  refine (cfor_at0 s' o h1 y hs).mono ?_
  rintro e w' ⟨A2, c2, rfl, o2, H, F⟩
  exact ⟨A2, c2, rfl, o2, h3 _ _ _ (fun j hj => (o2.lt j hj).1) H F, notP_mono h2 F⟩
theorem for_t2 (s' : Cd) (o : Option (List UInt8)) (D : List UInt8) (n : Nat) (b : Bool) {w1 : World} (h : CdSt Q w1 p q s r k) (h2 : Two OC OD P w p s' q r) (y : Int) (hs : cforBy cpick s y = (s', o)) (hD : oD o = D) (hn : D.length = n) (hb : o.isSome = b) : Calls Try.prog 17 #[.pointer (some ⟨q, 0, none⟩), .int .i64 y] w fun e w' =>
    ∃ A2 c2, e = .returned (.tuple #[.slice A2 n c2, .bool b]) ∧ Rd w' A2 (bv D) ∧ (∃ r', CdSt P w' p q s' r' (k + 1)) ∧ Fr (NotP P) w w' := by
  subst hb hn hD
  obtain ⟨R, h3, h4, h5⟩ := h2.right okC
  have hf := h.sim.for y
  rw [hs] at hf
  obtain ⟨f1, f2⟩ := hf
  refine (rfor_at (cforBy rpick r y).1 o h3 ((sim_ne h.sim).imp (fun h => h.1)) y (by rw [show o = (cforBy rpick r y).2 from f2])).mono ?_
  rintro e w' ⟨A2, c2, rfl, rd, H, F⟩
  refine ⟨A2, c2, rfl, rd, ⟨_, h5 _ _ H F, f1, ?_, ?_⟩, notP_mono h4 F⟩
  · have := cfor_len s y; rw [hs] at this; have := h.small; simp only at *; omega
  · have := cfor_free h.few y; rw [hs] at this; exact this
theorem ret_t1 (s' : Cd) (out : List Nat) (m : Nat) (h : CdSt P w p q s r k) (hs : cret s = (s', out)) (hm : out.length = m) : Calls Try.prog 20 #[.pointer (some ⟨p, 0, none⟩)] w fun e w' =>
    ∃ A2 c2, e = .returned (.slice A2 m c2) ∧ w'.ownsRow w.heap.size 31 1 (.slice A2 m c2) m (nv out) ∧ Two OC OD (fun k => P k ∨ (Value.slice A2 m c2).ownBlock = some k) w' p s' q r ∧ Fr (NotP P) w w' := by
  obtain ⟨R, h1, h2, h3⟩ := h.two.leftG okD
  refine (cret_at s' out m h1 hs hm).mono ?_
  rintro e w' ⟨A2, c2, rfl, o2, H, F⟩
  exact ⟨A2, c2, rfl, o2, h3 _ _ _ (fun j hj => (o2.lt j hj).1) H F, notP_mono h2 F⟩
theorem ret_t2 (s' : Cd) (out : List Nat) (m : Nat) {w1 : World} (h : CdSt Q w1 p q s r k) (h2 : Two OC OD P w p s' q r) (hs : cret s = (s', out)) (hm : out.length = m) : Calls Try.prog 21 #[.pointer (some ⟨q, 0, none⟩)] w fun e w' =>
    ∃ A2 c2, e = .returned (.slice A2 m c2) ∧ Rd w' A2 (nv out) ∧ (∃ r', CdSt P w' p q s' r' (k + 1)) ∧ Fr (NotP P) w w' := by
  obtain ⟨R, h3, h4, h5⟩ := h2.right okC
  have hf := h.sim.ret
  rw [hs] at hf
  obtain ⟨f1, f2⟩ := hf
  refine (rret_at (rret r).1 out m h3 h.pos (by rw [show out = (rret r).2 from f2]) hm).mono ?_
  rintro e w' ⟨A2, c2, rfl, rd, H, F⟩
  refine ⟨A2, c2, rfl, rd, ⟨_, h5 _ _ H F, f1, ?_, ?_⟩, notP_mono h4 F⟩
  · have := cret_len s; rw [hs] at this; have := h.small; simp only at *; omega
  · have := cret_free s; rw [hs] at this; have := h.few; simp only at *; omega
theorem ret_few (h : CdSt P w p q s r k) {s' : Cd} {out : List Nat} (hs : cret s = (s', out)) : out.length ≤ k + 1 := by
  have : (cret s).2.length ≤ s.l.length := by
    unfold cret
    simp only [List.length_map]
    exact List.length_filter_le _ _
  rw [hs] at this
  exact Nat.le_trans this h.small
theorem for_few (h : CdSt P w p q s r k) {s' : Cd} {y : Int} {o : Option (List UInt8)} (hs : cforBy cpick s y = (s', o)) : (oD o).length ≤ 8 := by
  unfold cforBy at hs
  split at hs
  · injection hs with _ h2; subst h2; simp [oD]
  · split at hs
    · injection hs with _ h2; subst h2; simp [oD]
    · rename_i x hx
      injection hs with _ h2
      subst h2
      show x.id.length ≤ 8
      have hm : x ∈ s.l := by
        unfold cpick at hx
        rcases hf : s.l.find? (fun x => decide (x.path = y)) with _ | z
        · rw [hf] at hx; exact List.mem_of_find?_eq_some (by simpa using hx)
        · rw [hf] at hx
          simp only [Option.some_or, Option.some.injEq] at hx
          subst hx
          exact List.mem_of_find?_eq_some hf
      have := (h.sim.ids x hm).1
      omega
theorem free_t1 (v : Nat) (h : CdSt P w p q s r k) (hv : cfree s.l = v) : Calls Try.prog 12 #[.pointer (some ⟨p, 0, none⟩)] w fun e w' => e = .returned (.int .i64 v) ∧ Below w.heap.size w w' := cfree_at v h.two.fst hv
theorem free_t2 (v : Nat) (h : CdSt P w p q s r k) (hv : cfree s.l = v) : Calls Try.prog 22 #[.pointer (some ⟨q, 0, none⟩)] w fun e w' => e = .returned (.int .i64 v) ∧ w = w' := by
  obtain ⟨⟨S, ⟨A, c, hI, _⟩, _⟩, _⟩ := h.two.snd
  rw [← hv, h.sim.free]
  exact rfree_any hI
theorem tok_t1 (v : Bool) (h : CdSt P w p q s r k) (t : List UInt8) (B : Option Addr) (m d : Nat) (hm : t.length = m) (ht : Rd w B (bv t)) (hv : ctok s.l t = v) : Calls Try.prog 23 #[.pointer (some ⟨p, 0, none⟩), .slice B m d] w fun e w' => e = .returned (.bool v) ∧ Below w.heap.size w w' := ctok_at v h.two.fst t B m d hm ht hv
theorem tok_t2 (v : Bool) (h : CdSt P w p q s r k) (t : List UInt8) (B : Option Addr) (m d : Nat) (hm : t.length = m) (ht : Rd w B (bv t)) (hv : ctok s.l t = v) : Calls Try.prog 24 #[.pointer (some ⟨q, 0, none⟩), .slice B m d] w fun e w' => e = .returned (.bool v) ∧ Below w.heap.size w w' := by
  obtain ⟨⟨S, ⟨A, c, hI, _⟩, _⟩, _⟩ := h.two.snd
  rw [← hv, h.sim.tok]
  exact (rtok_any hI t B m d hm ht).mono (fun e w' ⟨h1, h2⟩ => ⟨h1, h2.below⟩)
end
end Go.Proofs.Ytgmanhbfdjlhbaa
