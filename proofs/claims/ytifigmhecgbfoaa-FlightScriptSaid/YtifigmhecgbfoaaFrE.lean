/- The program's Flight and the document's beside one another: what ties them; each call. -/
import Derived.Test.YtifigmhecgbfoaaFrD
import Derived.Test.YtifigmhecgbfoaaAtI
import Derived.Test.YtifigmhecgbfoaaOverN
namespace Go.Proofs.Ytifigmhecgbfoaa
open Go.RowKit

structure RS where
  P : List Pr
  top : Nat
  heard : Bool
/-- The same packets are under way, the same was heard. -/
structure Sim (f : Fl) (r : RS) : Prop where
  l : f.l = punder r.P
  any : f.any = !r.P.isEmpty
  came : f.came = r.heard
  lg : f.largest = r.top
  last : f.last = (plast r.P).1
  tick : f.tick = (plast r.P).2
theorem plast_pupd (q : Pk → Bool) (P : List Pr) : plast (pupd q P P.length) = plast P ∧ (pupd q P P.length).isEmpty = P.isEmpty := by
  unfold pupd
  rw [List.take_length, List.drop_length, List.append_nil]
  rcases snoc_cases P with rfl | ⟨P', x, rfl⟩
  · exact ⟨rfl, rfl⟩
  · rw [List.map_append, List.map_singleton, plast_snoc, plast_snoc]
    refine ⟨?_, by cases P' <;> rfl⟩
    unfold pu
    split <;> rfl
theorem sim_new : Sim fnew ⟨[], 0, false⟩ := ⟨rfl, rfl, rfl, rfl, rfl, rfl⟩
section
variable {f : Fl} {r : RS} (h : Sim f r)
include h
theorem sim_ok (num : Nat) (tick : Int) : fsentok f num tick = rsentok r.P num tick := by
  unfold fsentok rsentok
  rw [h.any, h.last, h.tick]
theorem sim_sent (num tick : Nat) (cnt : Bool) : Sim (fsent f num tick cnt) ⟨r.P ++ [⟨num, tick, cnt, true⟩], r.top, r.heard⟩ := by
  refine ⟨?_, ?_, h.came, h.lg, ?_, ?_⟩
  · simp [fsent, h.l, punder, Pr.pk]
  · simp [fsent]
  · simp only [plast_snoc]; rfl
  · simp only [plast_snoc]; rfl
theorem sim_bad (rs : List Rg) : rs.any (rbad f) = rs.any (rbadP r.P) := by
  congr 1
  funext y
  unfold rbad rbadP
  rw [h.any, h.last, Bool.not_not]
theorem sim_tell (q : Pk → Bool) : Sim (ftake f q) ⟨pupd q r.P r.P.length, r.top, r.heard⟩ ∧ fnums f q = pnums q r.P r.P.length := by
  obtain ⟨h1, h2⟩ := punder_all q r.P
  obtain ⟨h3, h4⟩ := plast_pupd q r.P
  refine ⟨⟨?_, ?_, h.came, h.lg, ?_, ?_⟩, ?_⟩
  · simp only [ftake]; rw [h1, h.l]
  · simp only [ftake]; rw [h4, h.any]
  · simp only [ftake]; rw [h3, h.last]
  · simp only [ftake]; rw [h3, h.tick]
  · unfold fnums; rw [h2, h.l]
theorem sim_heard (rs : List Rg) : Sim (fheard f rs) ⟨r.P, rtop r.top rs, r.heard || !rs.isEmpty⟩ := by
  refine ⟨h.l, h.any, ?_, ?_, h.last, h.tick⟩
  · simp only [fheard]; rw [h.came]
  · simp only [fheard, rtop]; rw [h.lg]
theorem sim_age (num : Nat) : fage f num = page r.P num := by unfold fage page; rw [h.l]
end
/-! ### What comes of each call -/
def fsentx (f : Fl) (num : Nat) (tick : Int) (cnt : Bool) : Fl := if fsentok f num tick then fsent f num tick.toNat cnt else f
def rsentx (r : RS) (num : Nat) (tick : Int) (cnt : Bool) : RS := if rsentok r.P num tick then ⟨r.P ++ [⟨num, tick.toNat, cnt, true⟩], r.top, r.heard⟩ else r
def fcamex (f : Fl) (rs : List Rg) : Fl := if rs.any (rbad f) then f else ftake (fheard f rs) (qcame rs)
def fcamen (f : Fl) (rs : List Rg) : List Nat := if rs.any (rbad f) then [] else fnums f (qcame rs)
def rcamex (r : RS) (rs : List Rg) : RS := if rs.any (rbadP r.P) then r else ⟨pupd (qcame rs) r.P r.P.length, rtop r.top rs, r.heard || !rs.isEmpty⟩
def rcamen (r : RS) (rs : List Rg) : List Nat := if rs.any (rbadP r.P) then [] else pnums (qcame rs) r.P r.P.length
def flostx (f : Fl) (t p : Int) : Fl := ftake f (qlost f.came f.largest t (max p 1))
def flostn (f : Fl) (t p : Int) : List Nat := fnums f (qlost f.came f.largest t (max p 1))
def rlostx (r : RS) (t p : Int) : RS := ⟨pupd (qlost r.heard r.top t (max p 1)) r.P r.P.length, r.top, r.heard⟩
def rlostn (r : RS) (t p : Int) : List Nat := pnums (qlost r.heard r.top t (max p 1)) r.P r.P.length
section
variable {f : Fl} {r : RS} (h : Sim f r)
include h
theorem sim_sentx (num : Nat) (tick : Int) (cnt : Bool) : Sim (fsentx f num tick cnt) (rsentx r num tick cnt) := by
  unfold fsentx rsentx
  rw [sim_ok h]
  split
  · exact sim_sent h _ _ _
  · exact h
theorem sim_camex (rs : List Rg) : Sim (fcamex f rs) (rcamex r rs) ∧ fcamen f rs = rcamen r rs := by
  unfold fcamex fcamen rcamex rcamen
  rw [sim_bad h]
  split
  · exact ⟨h, rfl⟩
  · obtain ⟨h1, h2⟩ := sim_tell (sim_heard h rs) (qcame rs)
    exact ⟨h1, h2⟩
theorem sim_lostx (t p : Int) : Sim (flostx f t p) (rlostx r t p) ∧ flostn f t p = rlostn r t p := by
  unfold flostx flostn rlostx rlostn
  rw [h.came, h.lg]
  exact sim_tell h _
end
theorem rsentx_len (r : RS) (num : Nat) (tick : Int) (cnt : Bool) : (rsentx r num tick cnt).P.length ≤ r.P.length + 1 := by
  unfold rsentx
  split <;> simp
theorem rcamex_len (r : RS) (rs : List Rg) : (rcamex r rs).P.length = r.P.length ∧ (rcamen r rs).length ≤ r.P.length := by
  unfold rcamex rcamen
  split
  · exact ⟨rfl, by simp⟩
  · exact ⟨by simp, pnums_le _ _ _⟩
theorem rlostx_len (r : RS) (t p : Int) : (rlostx r t p).P.length = r.P.length ∧ (rlostn r t p).length ≤ r.P.length := ⟨by simp [rlostx], pnums_le _ _ _⟩
theorem sim_len {f : Fl} {r : RS} (h : Sim f r) : f.l.length ≤ r.P.length := by
  rw [h.l]; simp [punder]; exact List.length_filter_le _ _

/-! ### As objects -/
def OF (w : World) (p : Nat) (S : Nat → Prop) (f : Fl) : Prop := ∃ A c, IsFl w p A c f ∧ S = OnFl p A
def OG (w : World) (p : Nat) (S : Nat → Prop) (r : RS) : Prop := ∃ A c, IsRf w p A c r.P r.top r.heard ∧ S = OnFl p A
theorem IsFl.blk {w : World} {p c : Nat} {A : Option Addr} {f : Fl} (h : IsFl w p A c f) {k : Nat} (hk : OnFl p A k) : k < w.heap.size := by
  rcases hk with rfl | ⟨a, ha, rfl⟩
  · exact h.lt
  · rcases h.at with h1 | ⟨g, h1, h2, h3⟩
    · rw [h1] at ha; cases ha
    · rw [h1] at ha; injection ha with ha; subst ha; exact h3
theorem okF : ObjOk OF := ⟨fun ⟨A, c, h, e⟩ f hS => ⟨A, c, h.fr f (hS _ (by rw [e]; exact .inl rfl)) (fun a ha => hS _ (by rw [e]; exact .inr ⟨a, ha, rfl⟩)), e⟩, fun ⟨A, c, h, e⟩ k hk => by rw [e] at hk; exact h.blk hk⟩
theorem okG : ObjOk OG := ⟨fun ⟨A, c, h, e⟩ f hS => ⟨A, c, h.fr f (fun k hk => hS k (by rw [e]; exact hk)), e⟩, fun ⟨A, c, h, e⟩ k hk => by rw [e] at hk; exact h.blk hk⟩
theorem nxt_of {w : World} {p : Nat} {A A' : Option Addr} (h : Next w A A') : Nxt w (OnFl p A) (OnFl p A') := fun k hk => by
  rcases hk with rfl | ⟨a, ha, rfl⟩
  · exact .inl (.inl rfl)
  · rcases h a ha with ⟨b, hb, e⟩ | h1
    · exact .inl (.inr ⟨b, hb, e⟩)
    · exact .inr h1
/-- A row of numbers is none of a Flight's blocks. -/
theorem fl_apart {w : World} {p c : Nat} {A : Option Addr} {f : Fl} (h : IsFl w p A c f) {b n : Nat} {v : Value} {xs : List Value} (ho : w.ownsRow b 27 1 v n xs) : ∀ k, OnFl p A k → v.ownBlock ≠ some k := by
  intro k hk e
  rcases ho.2 with ⟨h1, _⟩ | ⟨g, cap, cur, hv, _, hg, _⟩
  · rw [h1] at e; cases e
  · rw [hv] at e
    injection e with e
    simp only at e
    subst e
    rcases hk with rfl | ⟨a, ha, hb⟩
    · have := h.cell
      rw [hg] at this
      injection this with this
      injection this with _ h2
      exact absurd h2 (by decide)
    · rcases h.row.2 with ⟨h1, _⟩ | ⟨g2, cap2, cur2, hv2, _, hg2, _⟩
      · injection h1 with h1; rw [h1] at ha; cases ha
      · injection hv2 with h2
        rw [ha] at h2
        injection h2 with h2
        rw [h2] at hb
        simp only at hb
        subst hb
        rw [hg] at hg2
        injection hg2 with this
        injection this with _ h2
        exact absurd h2 (by decide)
section
variable {Q : Nat → Prop} {w : World} {p q : Nat} {f : Fl} {r : RS}
theorem Two.narrow {σ τ : Type} {I : World → Nat → (Nat → Prop) → σ → Prop} {J : World → Nat → (Nat → Prop) → τ → Prop} {P Q : Nat → Prop} {s : σ} {t : τ} (h : Two I J P w p s q t) (hQ : ∀ k, Q k → P k) : Two I J Q w p s q t := by
  obtain ⟨S, T, h1, h2, h3, h4, h5⟩ := h
  exact ⟨S, T, h1, h2, fun k hk => ⟨fun x => (h3 k hk).1 (hQ k x), (h3 k hk).2⟩, fun k hk x => h4 k hk (hQ k x), fun k hk => h5 k (hQ k hk)⟩
theorem notP_mono {P R : Nat → Prop} {w w' : World} (h : ∀ k, P k → R k) (f : Fr (NotP R) w w') : Fr (NotP P) w w' := f.mono (fun k hk _ hp => hk (h k hp))
/-- The first one turns; what it hands back is guarded on. -/
theorem Two.turnF {w' : World} {S S' : Nat → Prop} {f' : Fl} {v : Value} {n : Nat} {xs : List Value} {T : Nat → Prop} (hT : OG w q T r) (h3 : ∀ k, S k → ¬ Q k ∧ ¬ T k) (h4 : ∀ k, T k → ¬ Q k) (h5 : ∀ k, Q k → k < w.heap.size)
    (hI : OF w' p S' f') (hF : Fr S w w') (hN : Nxt w S S') (ho : w'.ownsRow w.heap.size 27 1 v n xs) (hap : ∀ k, S' k → v.ownBlock ≠ some k) : Two OF OG (fun k => Q k ∨ v.ownBlock = some k) w' p f' q r ∧ Fr (NotP Q) w w' := by
  refine ⟨⟨S', T, hI, okG.fr hT hF (fun k hk e => (h3 k e).2 hk), fun k hk => ⟨fun x => ?_, fun x => ?_⟩, fun k hk x => ?_, fun k hk => ?_⟩, hF.mono (fun k hk _ => (h3 k hk).1)⟩
  · rcases x with x | x
    · rcases hN k hk with h | h
      · exact (h3 k h).1 x
      · have := h5 k x; omega
    · exact hap k hk x
  · rcases hN k hk with h | h
    · exact (h3 k h).2 x
    · have := okG.lt hT k x; omega
  · rcases x with x | x
    · exact h4 k hk x
    · have := (ho.lt k x).1; have := okG.lt hT k hk; omega
  · rcases hk with x | x
    · have := h5 k x; have := hF.size; omega
    · exact (ho.lt k x).2
theorem sent_t1 (num : Nat) (tick : Int) (cnt b : Bool) (f' : Fl) (h : Two OF OG Q w p f q r) (hn : num < 18446744073709551616) (ht : tick ≤ 9223372036854775807) (hs : f.l.length < 100000) (hb : fsentok f num tick = b) (hf : fsentx f num tick cnt = f') :
    Calls Try.prog 10 #[.pointer (some ⟨p, 0, none⟩), .int .u64 num, .int .i64 tick, .bool cnt] w fun e w' => e = .returned (.bool b) ∧ Two OF OG Q w' p f' q r ∧ Fr (NotP Q) w w' := by
  subst hf
  obtain ⟨R, ⟨⟨S, ⟨A, c, hI, rfl⟩, hn1⟩, hlt⟩, hPR, h2⟩ := h.left okG
  have hA : At OF R w p f := ⟨⟨_, ⟨A, c, hI, rfl⟩, hn1⟩, hlt⟩
  cases b with
  | false =>
    refine (sent_no hI num tick cnt hn hb).mono ?_
    rintro e w' ⟨rfl, rfl⟩
    unfold fsentx
    rw [hb]
    exact ⟨rfl, h2 _ _ hA (Fr.refl _ _), Fr.refl _ _⟩
  | true =>
    have h0 : 0 ≤ tick := by unfold fsentok at hb; simp at hb; omega
    obtain ⟨t, rfl⟩ := Int.eq_ofNat_of_zero_le h0
    refine (sent_yes hI num t cnt hs (by omega) hb).mono ?_
    rintro e w' ⟨rfl, A', c', hI2, hF, hN⟩
    obtain ⟨a1, a2⟩ := At.step (I := OF) hn1 hlt ⟨A', c', hI2, rfl⟩ hF (nxt_of hN)
    unfold fsentx
    rw [hb]
    exact ⟨rfl, h2 _ _ a1 a2, notP_mono hPR a2⟩
theorem sent_t2 (num : Nat) (tick : Int) (cnt b : Bool) (r' : RS) (h : Two OF OG Q w p f q r) (hn : num < 18446744073709551616) (ht : tick ≤ 9223372036854775807) (hs : r.P.length < 100000) (hb : rsentok r.P num tick = b) (hf : rsentx r num tick cnt = r') :
    Calls Try.prog 17 #[.pointer (some ⟨q, 0, none⟩), .int .u64 num, .int .i64 tick, .bool cnt] w fun e w' => e = .returned (.bool b) ∧ Two OF OG Q w' p f q r' ∧ Fr (NotP Q) w w' := by
  subst hf
  obtain ⟨R, ⟨⟨S, ⟨A, c, hI, rfl⟩, hn1⟩, hlt⟩, hPR, h2⟩ := h.right okF
  have hA : At OG R w q r := ⟨⟨_, ⟨A, c, hI, rfl⟩, hn1⟩, hlt⟩
  cases b with
  | false =>
    refine (rsent_no hI num tick cnt hn hb).mono ?_
    rintro e w' ⟨rfl, rfl⟩
    unfold rsentx
    rw [hb]
    exact ⟨rfl, h2 _ _ hA (Fr.refl _ _), Fr.refl _ _⟩
  | true =>
    have h0 : 0 ≤ tick := by unfold rsentok at hb; simp at hb; omega
    obtain ⟨t, rfl⟩ := Int.eq_ofNat_of_zero_le h0
    refine (rsent_yes hI num t cnt hs (by omega) hb).mono ?_
    rintro e w' ⟨rfl, A', c', hI2, hF, hN⟩
    obtain ⟨a1, a2⟩ := At.step (I := OG) (s' := ⟨r.P ++ [⟨num, t, cnt, true⟩], r.top, r.heard⟩) hn1 hlt ⟨A', c', hI2, rfl⟩ hF (nxt_of hN)
    unfold rsentx
    rw [hb]
    exact ⟨rfl, h2 _ _ a1 a2, notP_mono hPR a2⟩
theorem lost_t1 (tick pto : Int) (ts : List Nat) (n : Nat) (f' : Fl) (h : Two OF OG Q w p f q r) (ht : tick ≤ 9223372036854775807) (hts : flostn f tick pto = ts) (hn : ts.length = n) (hf : flostx f tick pto = f') :
    Calls Try.prog 11 #[.pointer (some ⟨p, 0, none⟩), .int .i64 tick, .int .i64 pto] w fun e w' => ∃ Ao co, e = .returned (.slice Ao n co) ∧ w'.ownsRow w.heap.size 27 1 (.slice Ao n co) n (nv ts) ∧ Two OF OG (fun k => Q k ∨ (Value.slice Ao n co).ownBlock = some k) w' p f' q r ∧ Fr (NotP Q) w w' := by
  subst hts hn hf
  obtain ⟨S, T, ⟨A, c, hI, rfl⟩, hT, h3, h4, h5⟩ := h
  refine (lost_any hI tick pto ht).mono ?_
  rintro e w' ⟨Ao, co, rfl, ho, A', c', hI2, hF, hN⟩
  have := Two.turnF hT h3 h4 h5 (⟨A', c', hI2, rfl⟩ : OF _ _ _ _) hF (nxt_of hN) ho (fl_apart hI2 ho)
  exact ⟨Ao, co, rfl, ho, this.1, this.2⟩
theorem lost_t2 (tick pto : Int) (ts : List Nat) (n : Nat) (r' : RS) (h : Two OF OG Q w p f q r) (ht : tick ≤ 9223372036854775807) (hts : rlostn r tick pto = ts) (hn : ts.length = n) (hf : rlostx r tick pto = r') :
    Calls Try.prog 20 #[.pointer (some ⟨q, 0, none⟩), .int .i64 tick, .int .i64 pto] w fun e w' => ∃ Ao co, e = .returned (.slice Ao n co) ∧ w'.ownsRow w.heap.size 27 1 (.slice Ao n co) n (nv ts) ∧ Two OF OG Q w' p f q r' ∧ Fr (NotP Q) w w' := by
  subst hts hf
  obtain ⟨R, ⟨⟨S, ⟨A, c, hI, rfl⟩, hn1⟩, hlt⟩, hPR, h2⟩ := h.right okF
  refine (rlost_any hI tick pto ht _ rfl n hn).mono ?_
  rintro e w' ⟨Ao, co, rfl, ho, hI2, hF⟩
  obtain ⟨a1, a2⟩ := At.step (I := OG) (s' := rlostx r tick pto) hn1 hlt ⟨A, c, hI2, rfl⟩ hF (Nxt.refl _ _)
  exact ⟨Ao, co, rfl, ho, h2 _ _ a1 a2, notP_mono hPR a2⟩
theorem came_t1 (rs : List Rg) (m : Nat) (R : Option Addr) (cr : Nat) (ts : List Nat) (n : Nat) (b : Bool) (f' : Fl) (h : Two OF OG Q w p f q r) (hm : rs.length = m) (hr : Rd w R (rgv rs)) (hRA : 0 < m → ∀ a, R = some a → Q a.block) (hl : m ≤ 1000000) (hb : rs.any (rbad f) = !b) (hts : fcamen f rs = ts) (hn : ts.length = n) (hf : fcamex f rs = f') :
    Calls Try.prog 15 #[.pointer (some ⟨p, 0, none⟩), .slice R m cr] w fun e w' => ∃ Ao co, e = .returned (.tuple #[.slice Ao n co, .bool b]) ∧ w'.ownsRow w.heap.size 27 1 (.slice Ao n co) n (nv ts) ∧ Two OF OG (fun k => Q k ∨ (Value.slice Ao n co).ownBlock = some k) w' p f' q r ∧ Fr (NotP Q) w w' := by
  subst hm hts hn hf
  unfold fcamen fcamex
  cases b with
  | false =>
    simp only [hb, Bool.not_false, if_true]
    obtain ⟨⟨S, ⟨A, c, hI, rfl⟩, hn1⟩, hlt⟩ := h.fst
    refine (came_no hI rs R cr hr hl hb).mono ?_
    rintro e w' ⟨rfl, bel⟩
    exact ⟨none, 0, rfl, World.ownsRow_nil _ _ _ _, (h.below okF okG bel).narrow (fun k hk => hk.elim id (fun x => by cases x)), Fr.of_below bel _⟩
  | true =>
    simp only [hb, Bool.not_true, Bool.false_eq_true, if_false]
    obtain ⟨S, T, ⟨A, c, hI, rfl⟩, hT, h3, h4, h5⟩ := h
    refine (came_yes hI rs R cr hr (fun h0 a ha hk => (h3 _ hk).1 (hRA h0 a ha)) hl hb).mono ?_
    rintro e w' ⟨Ao, co, rfl, ho, A', c', hI2, hF, hN⟩
    have := Two.turnF hT h3 h4 h5 (⟨A', c', hI2, rfl⟩ : OF _ _ _ _) hF (nxt_of hN) ho (fl_apart hI2 ho)
    exact ⟨Ao, co, rfl, ho, this.1, this.2⟩
theorem came_t2 (rs : List Rg) (m : Nat) (R : Option Addr) (cr : Nat) (ts : List Nat) (n : Nat) (b : Bool) (r' : RS) (h : Two OF OG Q w p f q r) (hm : rs.length = m) (hr : Rd w R (rgv rs)) (hRA : 0 < m → ∀ a, R = some a → Q a.block) (hl : m ≤ 1000000) (hb : rs.any (rbadP r.P) = !b) (hts : rcamen r rs = ts) (hn : ts.length = n) (hf : rcamex r rs = r') :
    Calls Try.prog 18 #[.pointer (some ⟨q, 0, none⟩), .slice R m cr] w fun e w' => ∃ Ao co, e = .returned (.tuple #[.slice Ao n co, .bool b]) ∧ w'.ownsRow w.heap.size 27 1 (.slice Ao n co) n (nv ts) ∧ Two OF OG Q w' p f q r' ∧ Fr (NotP Q) w w' := by
  subst hm hts hn hf
  unfold rcamen rcamex
  obtain ⟨R', ⟨⟨S, ⟨A, c, hI, rfl⟩, hn1⟩, hlt⟩, hPR, h2⟩ := h.right okF
  have hA : At OG R' w q r := ⟨⟨_, ⟨A, c, hI, rfl⟩, hn1⟩, hlt⟩
  cases b with
  | false =>
    simp only [hb, Bool.not_false, if_true]
    refine (rcame_no hI rs R cr hr hl hb).mono ?_
    rintro e w' ⟨rfl, bel⟩
    exact ⟨none, 0, rfl, World.ownsRow_nil _ _ _ _, h.below okF okG bel, Fr.of_below bel _⟩
  | true =>
    simp only [hb, Bool.not_true, Bool.false_eq_true, if_false]
    refine (rcame_yes hI rs R cr hr (fun h0 a ha hk => hn1 _ hk (hPR _ (hRA h0 a ha))) hl hb _ rfl).mono ?_
    rintro e w' ⟨Ao, co, rfl, ho, hI2, hF⟩
    obtain ⟨a1, a2⟩ := At.step (I := OG) (s' := ⟨pupd (qcame rs) r.P r.P.length, rtop r.top rs, r.heard || !rs.isEmpty⟩) hn1 hlt ⟨A, c, hI2, rfl⟩ hF (Nxt.refl _ _)
    exact ⟨Ao, co, rfl, ho, h2 _ _ a1 a2, notP_mono hPR a2⟩
theorem under_t1 (n : Nat) (h : Two OF OG Q w p f q r) (hn : f.l.length = n) : Calls Try.prog 13 #[.pointer (some ⟨p, 0, none⟩)] w fun e w' => e = .returned (.int .i64 n) ∧ Still w w' := by
  obtain ⟨⟨S, ⟨A, c, hI, _⟩, _⟩, _⟩ := h.fst
  subst hn; exact still_of0 (under_any hI)
theorem under_t2 (n : Nat) (h : Two OF OG Q w p f q r) (hn : (punder r.P).length = n) : Calls Try.prog 23 #[.pointer (some ⟨q, 0, none⟩)] w fun e w' => e = .returned (.int .i64 n) ∧ Still w w' := by
  obtain ⟨⟨S, ⟨A, c, hI, _⟩, _⟩, _⟩ := h.snd
  exact still_of0 (runder_any hI n hn)
theorem largest_t1 (n : Nat) (b : Bool) (h : Two OF OG Q w p f q r) (hn : f.largest = n) (hb : f.came = b) : Calls Try.prog 16 #[.pointer (some ⟨p, 0, none⟩)] w fun e w' => e = .returned (.tuple #[.int .u64 n, .bool b]) ∧ Still w w' := by
  obtain ⟨⟨S, ⟨A, c, hI, _⟩, _⟩, _⟩ := h.fst
  subst hn hb; exact still_of (largest_any hI)
theorem age_t1 (num t : Nat) (b : Bool) (h : Two OF OG Q w p f q r) (ht : (fage f num).getD 0 = t) (hb : (fage f num).isSome = b) : Calls Try.prog 21 #[.pointer (some ⟨p, 0, none⟩), .int .u64 num] w fun e w' => e = .returned (.tuple #[.int .i64 t, .bool b]) ∧ Below w.heap.size w w' := by
  obtain ⟨⟨S, ⟨A, c, hI, _⟩, _⟩, _⟩ := h.fst
  subst ht hb; exact age_any hI num
theorem age_t2 (num t : Nat) (b : Bool) (h : Two OF OG Q w p f q r) (ht : (page r.P num).getD 0 = t) (hb : (page r.P num).isSome = b) : Calls Try.prog 22 #[.pointer (some ⟨q, 0, none⟩), .int .u64 num] w fun e w' => e = .returned (.tuple #[.int .i64 t, .bool b]) ∧ Still w w' := by
  obtain ⟨⟨S, ⟨A, c, hI, _⟩, _⟩, _⟩ := h.snd
  exact still_of0 (rage_any hI num t b ht hb)
/-- What the document's Flight keeps in the open. -/
theorem cells_t2 (h : Two OF OG Q w p f q r) : w.cell? ⟨q, 1, none⟩ = some (.int .u64 r.top) ∧ w.cell? ⟨q, 2, none⟩ = some (.bool r.heard) := by
  obtain ⟨⟨S, ⟨A, c, hI, _⟩, _⟩, _⟩ := h.snd
  exact ⟨wrote_cell hI.cell 1 _ rfl, wrote_cell hI.cell 2 _ rfl⟩
end
end Go.Proofs.Ytifigmhecgbfoaa
