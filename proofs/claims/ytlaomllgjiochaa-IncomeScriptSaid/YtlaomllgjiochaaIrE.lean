/- The document's Put: whatever comes. The program's In and the document's beside one another: each call. -/
import Derived.Test.YtlaomllgjiochaaIrD
import Derived.Test.YtlaomllgjiochaaAtI
import Derived.Test.YtlaomllgjiochaaOverI
namespace Go.Proofs.Ytlaomllgjiochaa
open Go.RowKit

set_option maxRecDepth 100000 in
set_option maxHeartbeats 8000000 in
theorem rput_ok0 (p cc : Nat) (vD vC : Value) (s : Inc) (off : Nat) (A : Option Addr) (e : Bool) (w : World) (h : IsRi w p vD vC s) (tie : s.Tie) (hb : (off : Int) ≤ s.most) (hc : iclash s off [] e = false) :
    Calls Try.prog 17 #[.pointer (some ⟨p, 0, none⟩), .int .i64 off, .slice A 0 cc, .bool e] w (RPutPost p vD vC (iput s off [] e) w) := by
  have c0 := wrote_cell h.cell 0 _ rfl
  have c3 := wrote_cell h.cell 3 _ rfl
  have f3 := frozen_of_row w p 3 _ _ h.cell
  have k0 := h.ok.most0
  have k1 := h.ok.most1
  have k2 := h.ok.len
  have k3 := h.ok.en0
  have k4 := h.ok.en1
  have z1 := wrote_cell h.cell 1 _ rfl
  obtain ⟨ec, hec⟩ : ∃ ec, eclash s off e = ec := ⟨_, rfl⟩
  have HE : Hid (((decide (0 ≤ s.en) && (decide (s.en < (off : Int)) || (e && decide ((off : Int) ≠ s.en)))) || (e && decide ((off : Int) < s.got.length))) = ec) := Lib.hid (by rw [← hec]; exact eclash_tie s _ e h.ok tie (by omega))
  obtain rfl : ec = false := by
    have := hc
    unfold iclash at this
    rw [Bool.or_eq_false_iff] at this
    rw [← hec]
    simpa using this.1
  have hok := iput_ok s off [] e h.ok (by simpa using hb)
  have hT := Lib.hid (fun w' f => h.turn (w' := w') (s' := iput s off [] e) f (by simp [iput]))
  have H := Lib.hid h
  replace hok := Lib.hid hok
  obtain ⟨AD, cD, rfl, hD1, hD2⟩ := own_shape w h.data
  obtain ⟨n, hn⟩ : ∃ n, s.got.length = n := ⟨_, rfl⟩
  obtain ⟨E, hE⟩ : ∃ E, s.en = E := ⟨_, rfl⟩
  obtain ⟨M, hM⟩ : ∃ M, s.most = M := ⟨_, rfl⟩
  rw [hn] at z1 k2 HE hD1
  rw [hE] at c3 k3 k4 HE
  rw [hM] at c0 k0 k1 k2 k4 hb
  replace hn := Lib.hid hn
  replace hE := Lib.hid hE
  replace hM := Lib.hid hM
  have hT0 : (off : Int) ≤ 1048576 := by omega
  obtain ⟨b1, hb1⟩ : ∃ b, decide (0 ≤ E) = b := ⟨_, rfl⟩
  obtain ⟨b2, hb2⟩ : ∃ b, decide (E < (off : Int)) = b := ⟨_, rfl⟩
  obtain ⟨b3, hb3⟩ : ∃ b, ((off : Int) != E) = b := ⟨_, rfl⟩
  obtain ⟨b4, hb4⟩ : ∃ b, decide ((off : Int) < n) = b := ⟨_, rfl⟩
  have hb3' : decide ((off : Int) ≠ E) = b3 := by rw [← hb3]; exact (bne_eq_dec _ _).symm
  rw [hb1, hb2, hb3', hb4] at HE
  have hb4n : decide (off < n) = b4 := by rw [← hb4]; simp
  clear h hec hc hb3'
  go_enter Try.func17, Try.ntmps17
  go_upto_region 6 with fail
  go_cut [70] from 35 to 69 (fun x wx => x = .bool false ∧ w = wx)
  case first =>
    cases e <;> cases b1 <;> cases b2 <;> cases b3 <;> cases b4
    all_goals
      go_wp2_with fail
      go_meet
      exact ⟨by first | rfl | (rw [← HE.out] <;> rfl), rfl⟩
  case rest =>
    obtain ⟨rfl, rfl⟩ := hcut
    clear HE hb1 hb2 hb3 hb4 hb4n
    go_wp2_with fail
    go_loopw [10] (fun i wr => i = .int .i64 0 ∧ w = wr) (fun _ _ => 0)
    case atStart => exact ⟨rfl, rfl⟩
    case round =>
      obtain ⟨rfl, rfl⟩ := hrel
      go_wp2_with fail
      go_loopw [124] (fun _ wr => w = wr) (fun _ _ => 0)
      case atStart => rfl
      case round =>
        subst hrel
        go_wp2_with fail
        go_loopw [11] (fun i wr => i = .int .i64 0 ∧ w = wr) (fun _ _ => 0)
        case atStart => exact ⟨rfl, rfl⟩
        case round =>
          obtain ⟨rfl, rfl⟩ := hrel
          cases e with
          | true =>
            go_wp2_with fail
            go_ret
            exact ⟨_, _, rfl, hT.out _ ((Fr.refl (· = p) w).setCell (p := ⟨p, 3, none⟩) (fun _ => rfl) _) (by rw [heap_setCell_same _ p 3 _ _ _ H.out.cell]; simp [iput]) hok.out, ((Fr.refl (· = p) w).setCell (p := ⟨p, 3, none⟩) (fun _ => rfl) _).mono (fun k hk _ => by subst hk; exact .inl rfl), fun k hk => .inl hk⟩
          | false =>
            go_wp2_with fail
            go_ret
            have e : iput s off [] false = s := by simp [iput]
            rw [e]
            exact ⟨_, _, rfl, H.out, Fr.refl _ _, fun k hk => .inl hk⟩

theorem rput_any (p cc : Nat) (vD vC : Value) (s : Inc) (off : Int) (A : Option Addr) (l : List UInt8) (e : Bool) (w : World) (h : IsRi w p vD vC s) (tie : s.Tie) (hr : Rd w A (bv l)) (hA : 0 < l.length → ∀ a, A = some a → ¬ IncS p vD vC a.block) (hl : l.length ≤ 140737488355328) (ho : off ≤ 9223372036854775807) :
    Calls Try.prog 17 #[.pointer (some ⟨p, 0, none⟩), .int .i64 off, .slice A l.length cc, .bool e] w fun r w2 => ∃ vD2 vC2, r = .returned (.int .i64 (iputr s off l e)) ∧ IsRi w2 p vD2 vC2 (iputs s off l e) ∧ (iputs s off l e).Tie ∧ Fr (IncS p vD vC) w w2 ∧ ∀ k, IncS p vD2 vC2 k → IncS p vD vC k ∨ w.heap.size ≤ k := by
  have same : ∀ n : Int, iputr s off l e = n → n ≠ 0 → ∀ r w', r = Ending.returned (.int .i64 n) ∧ (∃ m, w' = w.drewN m) → ∃ vD2 vC2, r = .returned (.int .i64 (iputr s off l e)) ∧ IsRi w' p vD2 vC2 (iputs s off l e) ∧ (iputs s off l e).Tie ∧ Fr (IncS p vD vC) w w' ∧ ∀ k, IncS p vD2 vC2 k → IncS p vD vC k ∨ w.heap.size ≤ k := by
    rintro n hn hz r w' ⟨rfl, m, rfl⟩
    have e1 : iputs s off l e = s := by rw [iputs, if_neg (by rw [hn]; exact hz)]
    rw [e1]
    exact ⟨vD, vC, by rw [hn], h.drewN m, tie, (Fr.refl _ _).drewN m, fun k hk => .inl hk⟩
  by_cases h0 : off < 0
  · refine (rput_neg p (.slice A l.length cc) (.int .i64 0) e off w h0).mono (fun r w' ⟨a, b⟩ => same 2 ?_ (by decide) r w' ⟨a, 0, b.symm⟩)
    rw [iputr, if_pos h0]
  · by_cases h1 : s.most < off ∨ s.most - off < l.length
    · refine (rput_bound p cc vD vC s off A l.length e w h (by omega) ho (by omega) h1).mono (fun r w' ⟨a, b⟩ => same 11 ?_ (by decide) r w' ⟨a, 0, b.symm⟩)
      rw [iputr, if_neg h0, if_pos h1]
    · obtain ⟨k, rfl⟩ := Int.eq_ofNat_of_zero_le (show 0 ≤ off by omega)
      by_cases h2 : iclash s k l e = true
      · refine (rput_clash p cc vD vC s k A l e w h tie hr (by omega) h2).mono (same 12 ?_ (by decide))
        rw [iputr, if_neg h0, if_neg h1, if_pos (by simpa using h2)]
      · have hz : iputr s k l e = 0 := by rw [iputr, if_neg h0, if_neg h1, if_neg (by simpa using h2)]
        have h3 : iclash s k l e = false := by simpa using h2
        have ht := iput_tie s k l e tie h3
        rw [iputs, if_pos hz, hz]
        have fin : ∀ r w', RPutPost p vD vC (iput s k l e) w r w' → ∃ vD2 vC2, r = .returned (.int .i64 0) ∧ IsRi w' p vD2 vC2 (iput s k l e) ∧ (iput s k l e).Tie ∧ Fr (IncS p vD vC) w w' ∧ ∀ k, IncS p vD2 vC2 k → IncS p vD vC k ∨ w.heap.size ≤ k := by
          rintro r w' ⟨a, b, c, d, e1, f⟩
          exact ⟨a, b, c, d, ht, e1, f⟩
        rcases Nat.eq_zero_or_pos l.length with hz0 | hp
        · have : l = [] := List.eq_nil_of_length_eq_zero hz0
          subst this
          exact (rput_ok0 p cc vD vC s k A e w h tie (by omega) h3).mono fin
        · exact (rput_ok p cc vD vC s k A l e w h tie hr hA (by omega) h3 hp).mono fin

/-! ### As objects -/
def OI (w : World) (p : Nat) (S : Nat → Prop) (s : Inc) : Prop := ∃ vD vC, IsInc w p vD vC s ∧ S = IncS p vD vC
def OR (w : World) (p : Nat) (S : Nat → Prop) (s : Inc) : Prop := ∃ vD vC, IsRi w p vD vC s ∧ s.Tie ∧ S = IncS p vD vC
theorem okI : ObjOk OI := ⟨fun ⟨vD, vC, h, e⟩ f hS => ⟨vD, vC, h.fr f (fun k hk => hS k (by rw [e]; exact hk)), e⟩, fun ⟨_, _, h, e⟩ k hk => by rw [e] at hk; exact (h.ge hk).2⟩
theorem okR : ObjOk OR := ⟨fun ⟨vD, vC, h, t, e⟩ f hS => ⟨vD, vC, h.fr f (fun k hk => hS k (by rw [e]; exact hk)), t, e⟩, fun ⟨_, _, h, _, e⟩ k hk => by rw [e] at hk; exact (h.ge hk).2⟩
section
variable {P : Nat → Prop} {w : World} {p q : Nat} {s t : Inc}
theorem put_ai (cc : Nat) (off : Int) (A : Option Addr) (l : List UInt8) (e : Bool) (h : At OI P w p s) (hr : Rd w A (bv l)) (hA : 0 < l.length → ∀ a, A = some a → P a.block) (hl : l.length ≤ 140737488355328) (ho : off ≤ 9223372036854775807) :
    Calls Try.prog 10 #[.pointer (some ⟨p, 0, none⟩), .int .i64 off, .slice A l.length cc, .bool e] w fun r w' => r = .returned (.int .i64 (iputr s off l e)) ∧ At OI P w' p (iputs s off l e) ∧ Fr (NotP P) w w' := by
  obtain ⟨⟨S, ⟨vD, vC, hI, rfl⟩, hn⟩, hlt⟩ := h
  refine (iput_any p cc vD vC s off A l e w hI hr (fun h0 a ha hk => hn _ hk (hA h0 a ha)) hl ho).mono ?_
  rintro r w' ⟨vD2, vC2, rfl, hI2, hF, hN⟩
  exact ⟨rfl, At.step hn hlt ⟨vD2, vC2, hI2, rfl⟩ hF hN⟩
theorem put_ar (cc : Nat) (off : Int) (A : Option Addr) (l : List UInt8) (e : Bool) (h : At OR P w p s) (hr : Rd w A (bv l)) (hA : 0 < l.length → ∀ a, A = some a → P a.block) (hl : l.length ≤ 140737488355328) (ho : off ≤ 9223372036854775807) :
    Calls Try.prog 17 #[.pointer (some ⟨p, 0, none⟩), .int .i64 off, .slice A l.length cc, .bool e] w fun r w' => r = .returned (.int .i64 (iputr s off l e)) ∧ At OR P w' p (iputs s off l e) ∧ Fr (NotP P) w w' := by
  obtain ⟨⟨S, ⟨vD, vC, hI, ht, rfl⟩, hn⟩, hlt⟩ := h
  refine (rput_any p cc vD vC s off A l e w hI ht hr (fun h0 a ha hk => hn _ hk (hA h0 a ha)) hl ho).mono ?_
  rintro r w' ⟨vD2, vC2, rfl, hI2, ht2, hF, hN⟩
  exact ⟨rfl, At.step hn hlt ⟨vD2, vC2, hI2, ht2, rfl⟩ hF hN⟩
theorem read_ai (x : Int) (h : At OI P w p s) :
    Calls Try.prog 12 #[.pointer (some ⟨p, 0, none⟩), .int .i64 x] w fun e w' => ∃ A c', e = .returned (.slice A (ireadn s x) c') ∧ w'.ownsRow w.heap.size 5 1 (.slice A (ireadn s x) c') (ireadn s x) (bv (ibytes s (ireadn s x))) ∧ At OI P w' p (iread s x) ∧ Fr (NotP P) w w' := by
  obtain ⟨⟨S, ⟨vD, vC, hI, rfl⟩, hn⟩, hlt⟩ := h
  refine (iread_any p vD vC s x w hI).mono ?_
  rintro e w' ⟨A, c, he, ho, hI2, hF⟩
  exact ⟨A, c, he, ho, At.step hn hlt ⟨vD, vC, hI2, rfl⟩ (hF.mono (fun k hk _ => by subst hk; exact .inl rfl)) (Nxt.refl _ _)⟩
theorem read_ar (x : Int) (h : At OR P w p s) :
    Calls Try.prog 26 #[.pointer (some ⟨p, 0, none⟩), .int .i64 x] w fun e w' => ∃ A c', e = .returned (.slice A (ireadn s x) c') ∧ w'.ownsRow w.heap.size 5 1 (.slice A (ireadn s x) c') (ireadn s x) (bv (ibytes s (ireadn s x))) ∧ At OR P w' p (iread s x) ∧ Fr (NotP P) w w' := by
  obtain ⟨⟨S, ⟨vD, vC, hI, ht, rfl⟩, hn⟩, hlt⟩ := h
  refine (rread_any p vD vC s x w hI).mono ?_
  rintro e w' ⟨A, c, he, ho, hI2, hF⟩
  exact ⟨A, c, he, ho, At.step hn hlt ⟨vD, vC, hI2, iread_tie s x ht, rfl⟩ (hF.mono (fun k hk _ => by subst hk; exact .inl rfl)) (Nxt.refl _ _)⟩

/-! ### The two beside one another -/
theorem Two.narrow {σ τ : Type} {I : World → Nat → (Nat → Prop) → σ → Prop} {J : World → Nat → (Nat → Prop) → τ → Prop} {Q : Nat → Prop} {s : σ} {t : τ} (h : Two I J P w p s q t) (hQ : ∀ k, Q k → P k) : Two I J Q w p s q t := by
  obtain ⟨S, T, h1, h2, h3, h4, h5⟩ := h
  exact ⟨S, T, h1, h2, fun k hk => ⟨fun x => (h3 k hk).1 (hQ k x), (h3 k hk).2⟩, fun k hk x => h4 k hk (hQ k x), fun k hk => h5 k (hQ k hk)⟩
theorem notP_mono {P R : Nat → Prop} {w w' : World} (h : ∀ k, P k → R k) (f : Fr (NotP R) w w') : Fr (NotP P) w w' := f.mono (fun k hk _ hp => hk (h k hp))
theorem put_t1 (n : Nat) (v : Int) (s' : Inc) (cc : Nat) (off : Int) (A : Option Addr) (l : List UInt8) (e : Bool) (h : Two OI OR P w p s q t) (hn : l.length = n) (hv : iputr s off l e = v) (hs : iputs s off l e = s') (hr : Rd w A (bv l)) (hA : 0 < n → ∀ a, A = some a → P a.block) (hl : n ≤ 140737488355328) (ho : off ≤ 9223372036854775807) :
    Calls Try.prog 10 #[.pointer (some ⟨p, 0, none⟩), .int .i64 off, .slice A n cc, .bool e] w fun r w' => r = .returned (.int .i64 v) ∧ Two OI OR P w' p s' q t ∧ Fr (NotP P) w w' := by
  subst hn hv hs
  obtain ⟨R, h1, hPR, h2⟩ := h.left okR
  refine (put_ai cc off A l e h1 hr (fun h0 a ha => hPR _ (hA h0 a ha)) hl ho).mono ?_
  rintro r w' ⟨hr, ha, f⟩
  exact ⟨hr, h2 _ _ ha f, notP_mono hPR f⟩
theorem put_t2 (n : Nat) (v : Int) (s' : Inc) (cc : Nat) (off : Int) (A : Option Addr) (l : List UInt8) (e : Bool) (h : Two OI OR P w p s q t) (hn : l.length = n) (hv : iputr t off l e = v) (hs : iputs t off l e = s') (hr : Rd w A (bv l)) (hA : 0 < n → ∀ a, A = some a → P a.block) (hl : n ≤ 140737488355328) (ho : off ≤ 9223372036854775807) :
    Calls Try.prog 17 #[.pointer (some ⟨q, 0, none⟩), .int .i64 off, .slice A n cc, .bool e] w fun r w' => r = .returned (.int .i64 v) ∧ Two OI OR P w' p s q s' ∧ Fr (NotP P) w w' := by
  subst hn hv hs
  obtain ⟨R, h1, hPR, h2⟩ := h.right okI
  refine (put_ar cc off A l e h1 hr (fun h0 a ha => hPR _ (hA h0 a ha)) hl ho).mono ?_
  rintro r w' ⟨hr, ha, f⟩
  exact ⟨hr, h2 _ _ ha f, notP_mono hPR f⟩
theorem read_t1 (x : Int) (n : Nat) (l : List UInt8) (s' : Inc) (h : Two OI OR P w p s q t) (hn : ireadn s x = n) (hl : ibytes s n = l) (hs : iread s x = s') :
    Calls Try.prog 12 #[.pointer (some ⟨p, 0, none⟩), .int .i64 x] w fun e w' => ∃ A c', e = .returned (.slice A n c') ∧ w'.ownsRow w.heap.size 5 1 (.slice A n c') n (bv l) ∧ Two OI OR (fun k => P k ∨ (Value.slice A n c').ownBlock = some k) w' p s' q t ∧ Fr (NotP P) w w' := by
  subst hn hl hs
  obtain ⟨S, T, ⟨vD, vC, hI, rfl⟩, h2, h3, h4, h5⟩ := h
  refine (iread_any p vD vC s x w hI).mono ?_
  rintro e w' ⟨A, c, he, ho, hI2, hF⟩
  have hp := h3 p (.inl rfl)
  refine ⟨A, c, he, ho, ⟨IncS p vD vC, T, ⟨vD, vC, hI2, rfl⟩, okR.fr h2 hF (fun k hk e => by subst e; exact hp.2 hk), fun k hk => ⟨fun x => ?_, (h3 k hk).2⟩, fun k hk x => ?_, fun k hk => ?_⟩, hF.mono (fun k hk _ => by subst hk; exact hp.1)⟩
  · rcases x with x | x
    · exact (h3 k hk).1 x
    · have := (ho.lt k x).1; have := (hI.ge hk).2; omega
  · rcases x with x | x
    · exact h4 k hk x
    · have := (ho.lt k x).1; have := okR.lt h2 k hk; omega
  · rcases hk with x | x
    · have := h5 k x; have := hF.size; omega
    · exact (ho.lt k x).2
theorem read_t2 (x : Int) (n : Nat) (l : List UInt8) (s' : Inc) (h : Two OI OR P w p s q t) (hn : ireadn t x = n) (hl : ibytes t n = l) (hs : iread t x = s') :
    Calls Try.prog 26 #[.pointer (some ⟨q, 0, none⟩), .int .i64 x] w fun e w' => ∃ A c', e = .returned (.slice A n c') ∧ w'.ownsRow w.heap.size 5 1 (.slice A n c') n (bv l) ∧ Two OI OR P w' p s q s' ∧ Fr (NotP P) w w' := by
  subst hn hl hs
  obtain ⟨R, h1, hPR, h2⟩ := h.right okI
  refine (read_ar x h1).mono ?_
  rintro r w' ⟨A, c, hr, ho, ha, f⟩
  exact ⟨A, c, hr, ho, h2 _ _ ha f, notP_mono hPR f⟩
/-! the calls that only read -/
theorem rdb_t1 (v : Nat) (h : Two OI OR P w p s q t) (hv : irdb s = v) : Calls Try.prog 19 #[.pointer (some ⟨p, 0, none⟩)] w fun e w' => e = .returned (.int .i64 v) ∧ Still w w' := by
  obtain ⟨⟨S, ⟨vD, vC, hI, _⟩, _⟩, _⟩ := h.fst
  subst hv; exact still_of (irdb_any p vD vC s w hI)
theorem rdb_t2 (v : Nat) (h : Two OI OR P w p s q t) (hv : irdb t = v) : Calls Try.prog 20 #[.pointer (some ⟨q, 0, none⟩)] w fun e w' => e = .returned (.int .i64 v) ∧ Still w w' := by
  obtain ⟨⟨S, ⟨vD, vC, hI, _, _⟩, _⟩, _⟩ := h.snd
  subst hv; exact still_of (rreadable_any q vD vC t w hI)
theorem hi_t1 (v : Int) (h : Two OI OR P w p s q t) (hv : s.hi = v) : Calls Try.prog 21 #[.pointer (some ⟨p, 0, none⟩)] w fun e w' => e = .returned (.int .i64 v) ∧ Still w w' := by
  obtain ⟨⟨S, ⟨vD, vC, hI, _⟩, _⟩, _⟩ := h.fst
  subst hv; exact still_of0 (ihigh_any p vD vC s w hI)
theorem hi_t2 (v : Int) (h : Two OI OR P w p s q t) (hv : t.hi = v) : Calls Try.prog 22 #[.pointer (some ⟨q, 0, none⟩)] w fun e w' => e = .returned (.int .i64 v) ∧ Still w w' := by
  obtain ⟨⟨S, ⟨vD, vC, hI, ht, _⟩, _⟩, _⟩ := h.snd
  subst hv; exact still_of (rhigh_any q vD vC t w hI ht)
theorem wh_t1 (v : Bool) (h : Two OI OR P w p s q t) (hv : iwhole s = v) : Calls Try.prog 23 #[.pointer (some ⟨p, 0, none⟩)] w fun e w' => e = .returned (.bool v) ∧ Still w w' := by
  obtain ⟨⟨S, ⟨vD, vC, hI, _⟩, _⟩, _⟩ := h.fst
  subst hv; exact still_of (iwhole_any p vD vC s w hI)
theorem wh_t2 (v : Bool) (h : Two OI OR P w p s q t) (hv : iwhole t = v) : Calls Try.prog 24 #[.pointer (some ⟨q, 0, none⟩)] w fun e w' => e = .returned (.bool v) ∧ Still w w' := by
  obtain ⟨⟨S, ⟨vD, vC, hI, _, _⟩, _⟩, _⟩ := h.snd
  subst hv; exact still_of (rwhole_any q vD vC t w hI)
theorem en_t1 (v : Bool) (h : Two OI OR P w p s q t) (hv : iended s = v) : Calls Try.prog 14 #[.pointer (some ⟨p, 0, none⟩)] w fun e w' => e = .returned (.bool v) ∧ Still w w' := by
  obtain ⟨⟨S, ⟨vD, vC, hI, _⟩, _⟩, _⟩ := h.fst
  subst hv; exact still_of (iended_any p vD vC s w hI)
theorem en_t2 (v : Bool) (h : Two OI OR P w p s q t) (hv : iended t = v) : Calls Try.prog 25 #[.pointer (some ⟨q, 0, none⟩)] w fun e w' => e = .returned (.bool v) ∧ Still w w' := by
  obtain ⟨⟨S, ⟨vD, vC, hI, ht, _⟩, _⟩, _⟩ := h.snd
  subst hv; exact still_of (rended_any q vD vC t w hI ht)
end
end Go.Proofs.Ytlaomllgjiochaa
