/- IncomeTurned: the walk. -/
import Derived.Test.YtlaomllgjiochaaIncS
namespace Go.Proofs.Ytlaomllgjiochaa
open Go.RowKit

/-- Between two pieces: all from place c on has come. -/
def TurnSt (D : List UInt8) (p N : Nat) (w w' : World) (c : Nat) : Prop :=
  ∃ s, IncAt p N w w' p s ∧ Part D s ∧ s.rd = 0 ∧ ∀ i, c ≤ i → i < D.length → Has s i
theorem turn_put {D : List UInt8} {p N : Nat} {w w' : World} {c f t cc : Nat} {A : Option Addr} {e : Bool} (hD : D.length ≤ 200) (h : TurnSt D p N w w' c) (hr : Rd w' A (bv ((D.drop f).take (t - f)))) (hA : ∀ a, A = some a → a.block < p ∨ N ≤ a.block)
    (hft : f ≤ t) (ht : t ≤ D.length) (he : e = decide (t = D.length)) (c2 : Nat) (hc2 : ∀ i, c2 ≤ i → i < c → i < D.length → f ≤ i ∧ i < t) :
    Calls Try.prog 10 #[.pointer (some ⟨p, 0, none⟩), .int .i64 f, .slice A (t - f) cc, .bool e] w' fun r w2 => r = .returned (.int .i64 0) ∧ TurnSt D p w2.heap.size w w2 c2 := by
  obtain ⟨s, hI, hP, hrd, hc⟩ := h
  have hl : ((D.drop f).take (t - f)).length = t - f := by simp; omega
  obtain ⟨h1, h2, h3, h4, _⟩ := part_put (l := (D.drop f).take (t - f)) (off := f) (e := e) hP (fun k hk => by rw [List.getElem?_take_of_lt (by omega), List.getElem?_drop]) (by omega) (fun h => by rw [he] at h; have := of_decide_eq_true h; omega)
  refine (put_to _ 0 (t - f) cc f A _ e hI hr (fun _ a ha => hA a ha) hl (by omega) (by omega) rfl h1).mono ?_
  rintro r w2 ⟨rfl, hI2, _⟩
  refine ⟨rfl, _, hI2, h2, h4.trans hrd, fun i hi hd => (h3 i).2 ?_⟩
  by_cases hic : c ≤ i
  · exact .inl (hc i hic hd)
  · right
    have := hc2 i hi (by omega) hd
    omega
theorem turn_end {D : List UInt8} {p N : Nat} {w w' : World} (hD : D.length ≤ 200) (h : TurnSt D p N w w' 0) :
    Calls Try.prog 10 #[.pointer (some ⟨p, 0, none⟩), .int .i64 D.length, .slice none 0 0, .bool true] w' fun r w2 => r = .returned (.int .i64 0) ∧ ∃ s, IncAt p w2.heap.size w w2 p s ∧ Part D s ∧ s.rd = 0 ∧ s.en = D.length ∧ s.hi = D.length ∧ ∀ i, i < D.length → Has s i := by
  obtain ⟨s, hI, hP, hrd, hc⟩ := h
  obtain ⟨h1, h2, h3, h4, h5, h6, h7⟩ := part_put (l := []) (off := D.length) (e := true) hP (fun k hk => by simp at hk) (by simp) (fun _ => by simp)
  refine (put_to _ 0 0 0 D.length none [] true hI (Rd.nil _ _) (fun h => by simp at h) rfl (by omega) (by omega) rfl h1).mono ?_
  rintro r w2 ⟨rfl, hI2, _⟩
  exact ⟨rfl, _, hI2, h2, h4.trans hrd, by rw [h6]; rfl, by rw [h7]; rfl, fun i hi => (h3 i).2 (.inl (hc i (Nat.zero_le _) hi))⟩

theorem IncAt.pN {B N p : Nat} {w0 w : World} {s : Inc} (h : IncAt B N w0 w p s) : p < N := by obtain ⟨_, _, _, hN⟩ := h.ex; exact hN p (.inl rfl)
theorem IncAt.grown {B N p : Nat} {w0 w w' : World} {s : Inc} {row : Option Nat} (h : IncAt B N w0 w p s) (hg : w.grownBy w' row) (hr : ∀ k, row = some k → N ≤ k) : IncAt B N w0 w' p s :=
  h.step (S := fun j => row = some j) ((Fr.refl _ w).grown hg (fun j hj _ => hj)) (fun j _ h2 h3 => by have := hr j h3; omega) (fun j h3 _ => by have := hr j h3; have := h.pN; have := h.le; omega)
/-- Between two reads. -/
def ReadSt (D : List UInt8) (p N r : Nat) (w w' : World) (v : Value) : Prop :=
  ∃ s, IncAt p N w w' p s ∧ Part D s ∧ s.rd = r ∧ s.en = D.length ∧ (∀ i, i < D.length → Has s i) ∧ w'.ownsRow N 5 1 v r (bv (D.take r)) ∧ N ≤ w'.heap.size
theorem turned_read {D : List UInt8} {p N r R : Nat} {w w' : World} {v : Value} (hD : D.length ≤ 200) (hr : r ≤ D.length) (h : ReadSt D p N r w w' v) :
    Calls Try.prog 12 #[.pointer (some ⟨p, 0, none⟩), .int .i64 R] w' fun e w2 => ∃ A c, e = .returned (.slice A (min R (D.length - r)) c) ∧ Rd w2 A (bv ((D.drop r).take (min R (D.length - r)))) ∧ w2.ownsRow N 5 1 v r (bv (D.take r)) ∧ N ≤ w2.heap.size ∧
      ∃ s, IncAt p N w w2 p s ∧ Part D s ∧ s.rd = r + min R (D.length - r) ∧ s.en = D.length ∧ ∀ i, i < D.length → Has s i := by
  obtain ⟨s, hI, hP, hrd, hen, hall, hown, hN⟩ := h
  obtain ⟨f1, f2, f3, f4⟩ := part_all hP (by omega) hall hen
  have f5 := f3 R (by omega)
  rw [hrd, Int.toNat_natCast] at f5
  have f6 := f4 (min R (D.length - r)) (by omega)
  rw [hrd] at f6
  refine (read_to R (min R (D.length - r)) _ _ hI hI.pN f5 f6 rfl).mono ?_
  rintro e w2 ⟨A, c, rfl, ho, hI2, hF⟩
  have hp := hI.pN
  exact ⟨A, c, rfl, Rd.of_own ho, own_fr hown hF (fun k hk e => by have := (hown.lt k hk).1; omega), Nat.le_trans hN hF.size, _, hI2, part_read hP R, by simp only [iread]; rw [f5, hrd], hen, hall⟩

theorem div_facts (n L : Nat) (hL : 1 ≤ L) : ∃ q : Nat, ((n : Int) + L - 1) / L = q ∧ n ≤ q * L ∧ (∀ j, j < q → j * L < n) ∧ q ≤ n := by
  refine ⟨(n + L - 1) / L, ?_, ?_, ?_, ?_⟩
  · rw [show (n : Int) + L - 1 = ((n + L - 1 : Nat) : Int) from by omega]; simp
  · have := Nat.div_add_mod (n + L - 1) L
    have h2 := Nat.mod_lt (n + L - 1) (show 0 < L by omega)
    rw [Nat.mul_comm] at this; omega
  · intro j hj
    have h1 : (j + 1) * L ≤ n + L - 1 := (Nat.le_div_iff_mul_le (by omega)).1 hj
    rw [Nat.add_mul, Nat.one_mul] at h1; omega
  · rcases Nat.eq_zero_or_pos n with h | h
    · subst h; rw [Nat.div_eq_of_lt (by omega)]; exact Nat.le_refl _
    · refine Nat.div_le_of_le_mul ?_
      have h1 : L * n = L * (n - 1) + L := by rw [← Nat.mul_succ]; congr 1; omega
      have h3 : n - 1 ≤ L * (n - 1) := Nat.le_mul_of_pos_left _ (by omega)
      omega

theorem mul_le30 (a L n : Nat) (h : a * L < n) (hn : n ≤ 120) : a * L ≤ 120 := by omega
def tcov (n L q k : Nat) : Nat := if k ≤ q then n else (2 * q - k) * L

set_option maxRecDepth 100000 in
set_option maxHeartbeats 8000000 in
theorem turned_in (D : List UInt8) (A : Option Addr) (cap : Nat) (long0 turn0 read0 : Int) (l1 r1 t : Nat) (w : World) (hr : Rd w A (bv D)) (hc : D.length ≤ cap) (hcm : cap ≤ 9223372036854775807) (h0 : D.length ≤ 120) (hl1 : l1 < 30) (hr1 : r1 < 40) (ht : t < 1000)
    (D1 : Hid (∀ w : World, Calls Try.prog 11 #[.int .i64 long0, .int .i64 30] w fun e w' => e = .returned (.int .i64 l1) ∧ w = w'))
    (D2 : Hid (∀ w : World, Calls Try.prog 11 #[.int .i64 read0, .int .i64 40] w fun e w' => e = .returned (.int .i64 r1) ∧ w = w'))
    (D3 : Hid (∀ w : World, Calls Try.prog 11 #[.int .i64 turn0, .int .i64 1000] w fun e w' => e = .returned (.int .i64 t) ∧ w = w')) :
    Calls Try.prog 7 #[.slice A D.length cap, .int .i64 long0, .int .i64 turn0, .int .i64 read0] w fun e w' => e = .returned (.bool true) ∧ Below w.heap.size w w' := by
  obtain ⟨L, hL⟩ : ∃ L : Nat, (1 : Int) + l1 = L := ⟨1 + l1, by omega⟩
  obtain ⟨R, hR⟩ : ∃ R : Nat, (1 : Int) + r1 = R := ⟨1 + r1, by omega⟩
  obtain ⟨q, hq, hq1, hq2, hq3⟩ := div_facts D.length L (by omega)
  have hLb : 1 ≤ L ∧ L ≤ 30 := by omega
  have hRb : 1 ≤ R ∧ R ≤ 40 := by omega
  obtain ⟨M, hM⟩ : ∃ M : Nat, (M : Int) = max (q : Int) 1 := ⟨max q 1, by omega⟩
  have HMx := fun ts t w => run_max2 (P := Try.prog) q 1 M hM ts t w
  have hMb : 1 ≤ M ∧ M ≤ 121 ∧ q ≤ M := by omega
  have hMq : 0 < q → M = q := fun h => by omega
  replace hM := Lib.hid hM
  replace hMq := Lib.hid hMq
  replace hL := Lib.hid hL
  replace hR := Lib.hid hR
  replace hq1 := Lib.hid hq1
  replace hq2 := Lib.hid hq2
  have HR := Lib.hid hr
  have hdl : decide (120 < (D.length : Int)) = false := decide_eq_false (by omega)
  clear hr
  go_enter Try.func7, Try.ntmps7
  go_wp2_with fail
  refine (D1.out _).mono ?_
  rintro e w' ⟨rfl, rfl⟩
  go_wp2_with fail
  refine (D2.out _).mono ?_
  rintro e w' ⟨rfl, rfl⟩
  rw [hL.out]
  go_wp2_with fail
  rw [hR.out]
  refine (new_at w.heap.size w w D.length (Below.refl _ _) (Nat.le_refl _) (by omega) (by omega)).mono ?_
  rintro e w1 ⟨rfl, I1, hb1⟩
  obtain ⟨p, hp⟩ : ∃ p, w.heap.size = p := ⟨_, rfl⟩
  rw [hp] at I1 ⊢
  replace hp := Lib.hid hp
  have S1 : TurnSt D p w1.heap.size w w1 D.length := ⟨_, I1.here, part_new D D.length (by omega) (by omega), rfl, fun i h1 h2 => by omega⟩
  replace S1 := Lib.hid S1
  clear I1 hb1
  go_wp2_with fail
  refine (D3.out _).mono ?_
  rintro e w' ⟨rfl, rfl⟩
  go_wp2_with fail
  go_loopw [11] (fun i wr => ∃ k : Nat, k ≤ 2 * q ∧ i = .int .i64 k ∧ TurnSt D p wr.heap.size w wr (tcov D.length L q k)) (fun i _ => 2 * q - (intOf i).toNat)
  case atStart => exact ⟨0, by omega, rfl, by rw [tcov, if_pos (Nat.zero_le _)]; exact S1.out⟩
  case round =>
    obtain ⟨k, hk, rfl, S2⟩ := hrel
    replace S2 := Lib.hid S2
    clear S1
    by_cases hk2 : k < 2 * q
    · by_cases hkq : k < q
      · have hM2 := hMq.out (by omega)
        have hj0 : (k * 7 + t) % M < M := Nat.mod_lt _ (by omega)
        obtain ⟨j, hj⟩ : ∃ j, (k * 7 + t) % M = j := ⟨_, rfl⟩
        have HJ : ((k : Int) * 7 + t) % (M : Int) = j := by rw [← hj]; simp
        rw [hj] at hj0
        have hjq : j < q := by omega
        replace hM2 := Lib.hid hM2
        replace hj := Lib.hid hj
        clear hj0
        have hf0 := hq2.out j (by omega)
        obtain ⟨f, hf⟩ : ∃ f, j * L = f := ⟨_, rfl⟩
        rw [hf] at hf0
        have hmul : ((j : Nat) : Int) * (L : Int) = f := by rw [← hf]; simp
        obtain ⟨to, hto⟩ : ∃ to : Nat, (to : Int) = min ((f : Int) + L) D.length := ⟨min (f + L) D.length, by omega⟩
        have HMn := fun ts t w => run_min2 (P := Try.prog) ((f : Int) + L) D.length to hto ts t w
        have hto2 : f ≤ to ∧ to ≤ D.length ∧ to ≤ f + L ∧ (to = f + L ∨ to = D.length) := by omega
        obtain ⟨X, K, qX⟩ := cut_lh (P := Try.prog) Try.underlying22 infoB A D.length cap f to (by omega) (by omega)
        have heb : ((to : Int) == (D.length : Int)) = decide (to = D.length) := by rw [Bool.eq_iff_iff, beq_iff_eq, decide_eq_true_eq]; omega
        obtain ⟨eb, hebn⟩ : ∃ eb, decide (to = D.length) = eb := ⟨_, rfl⟩
        rw [hebn] at heb
        have RX : Hid (Rd wr X (bv ((D.drop f).take (to - f)))) := Lib.hid (qX.bytes (HR.out.below (by have ⟨s, hI, _⟩ := S2.out; rw [hp.out]; exact hI.bel)) (by omega) hc)
        have hlX : ((D.drop f).take (to - f)).length = to - f := by simp; omega
        replace hlX := Lib.hid hlX
        replace hf := Lib.hid hf
        replace hto := Lib.hid hto
        replace hebn := Lib.hid hebn
        have hto3 := Lib.hid hto2
        clear qX
        go_wp2_with (at_builtin; refine wpList_app _ rfl _ _ 22 (by rfl) wr.heap.size 5 (.int .u8 0) 1 infoB Try.underlying22 rfl (.slice none 0 0) 0 [] (by rfl) (World.ownsRow_nil _ _ _ _) X (to - f) (cap - f) (bv ((D.drop f).take (to - f))) (by rfl) (by rw [bv_length]; exact hlX.out) RX.out (bv_one _) (by unfold maxLen; omega) (by omega) (Nat.le_refl _) ?_; intro A2 c2 w2 hown hgrow hat)
        have hb2 : Below wr.heap.size wr w2 := (Below.refl _ _).grown hgrow (Nat.le_refl _) (fun k hk => by simp [Value.ownBlock] at hk)
        have S3 : Hid (TurnSt D p wr.heap.size w w2 (tcov D.length L q k)) := Lib.hid (by obtain ⟨s, hI, r⟩ := S2.out; exact ⟨s, hI.below hb2, r⟩)
        have R2 := Rd.of_own hown
        simp only [List.nil_append, Nat.zero_add] at R2
        have hA2 : Hid (∀ a, A2 = some a → a.block < p ∨ wr.heap.size ≤ a.block) := Lib.hid (fun a ha => .inr (hown.lt a.block (by rw [ha]; rfl)).1)
        replace R2 := Lib.hid R2
        replace hown := Lib.hid hown
        replace hgrow := Lib.hid hgrow
        replace hat := Lib.hid hat
        replace hb2 := Lib.hid hb2
        refine (turn_put (c2 := D.length) (by omega) S3.out R2.out hA2.out hto3.out.1 hto3.out.2.1 hebn.out.symm (fun i h1 h2 h3 => by omega)).mono ?_
        rintro e w3 ⟨rfl, S4⟩
        replace S4 := Lib.hid S4
        go_wp2_with fail
        go_roundw
        case rel => exact ⟨k + 1, by omega, by go_num, by rw [tcov, if_pos (by omega)]; exact S4.out⟩
        case measure => simp [intOf]; omega
      · obtain ⟨pp, hpp⟩ : ∃ pp : Nat, (2 : Int) * q - 1 - k = pp := ⟨2 * q - 1 - k, by omega⟩
        have hpq : pp < q := by omega
        have hpk : pp + k + 1 = 2 * q := by omega
        have hHJ : ∃ j : Int, ((k : Int) * 7 + t) % (M : Int) = j := ⟨_, rfl⟩
        obtain ⟨jj, HJ⟩ := hHJ
        replace hpk := Lib.hid hpk
        have hf0 := hq2.out pp (by omega)
        obtain ⟨f, hf⟩ : ∃ f, pp * L = f := ⟨_, rfl⟩
        rw [hf] at hf0
        have hmul : ((pp : Nat) : Int) * (L : Int) = f := by rw [← hf]; simp
        obtain ⟨to, hto⟩ : ∃ to : Nat, (to : Int) = min ((f : Int) + L) D.length := ⟨min (f + L) D.length, by omega⟩
        have HMn := fun ts t w => run_min2 (P := Try.prog) ((f : Int) + L) D.length to hto ts t w
        have hto2 : f ≤ to ∧ to ≤ D.length ∧ to ≤ f + L ∧ (to = f + L ∨ to = D.length) := by omega
        obtain ⟨X, K, qX⟩ := cut_lh (P := Try.prog) Try.underlying22 infoB A D.length cap f to (by omega) (by omega)
        have heb : ((to : Int) == (D.length : Int)) = decide (to = D.length) := by rw [Bool.eq_iff_iff, beq_iff_eq, decide_eq_true_eq]; omega
        obtain ⟨eb, hebn⟩ : ∃ eb, decide (to = D.length) = eb := ⟨_, rfl⟩
        rw [hebn] at heb
        have RX : Hid (Rd wr X (bv ((D.drop f).take (to - f)))) := Lib.hid (qX.bytes (HR.out.below (by have ⟨s, hI, _⟩ := S2.out; rw [hp.out]; exact hI.bel)) (by omega) hc)
        have hlX : ((D.drop f).take (to - f)).length = to - f := by simp; omega
        replace hlX := Lib.hid hlX
        replace hf := Lib.hid hf
        replace hto := Lib.hid hto
        replace hebn := Lib.hid hebn
        have hto3 := Lib.hid hto2
        have hcn : Hid (tcov D.length L q (k + 1) = f) := Lib.hid (by
          rw [tcov, if_neg (by omega), show 2 * q - (k + 1) = pp from by have := hpk.out; omega]; exact hf.out)
        have hcv : Hid (∀ i, f ≤ i → i < tcov D.length L q k → i < D.length → f ≤ i ∧ i < to) := Lib.hid (fun i h1 h2 h3 => by
          refine ⟨h1, ?_⟩
          have h4 : (pp + 1) * L = f + L := by rw [Nat.add_mul, Nat.one_mul, hf.out]
          rw [tcov] at h2
          split at h2
          · have hk3 : pp + 1 = q := by have := hpk.out; omega
            rw [hk3] at h4
            have := hq1.out
            omega
          · rw [show 2 * q - k = pp + 1 from by have := hpk.out; omega, h4] at h2
            omega)
        clear qX
        go_wp2_with (at_builtin; refine wpList_app _ rfl _ _ 22 (by rfl) wr.heap.size 5 (.int .u8 0) 1 infoB Try.underlying22 rfl (.slice none 0 0) 0 [] (by rfl) (World.ownsRow_nil _ _ _ _) X (to - f) (cap - f) (bv ((D.drop f).take (to - f))) (by rfl) (by rw [bv_length]; exact hlX.out) RX.out (bv_one _) (by unfold maxLen; omega) (by omega) (Nat.le_refl _) ?_; intro A2 c2 w2 hown hgrow hat)
        have hb2 : Below wr.heap.size wr w2 := (Below.refl _ _).grown hgrow (Nat.le_refl _) (fun k hk => by simp [Value.ownBlock] at hk)
        have S3 : Hid (TurnSt D p wr.heap.size w w2 (tcov D.length L q k)) := Lib.hid (by obtain ⟨s, hI, r⟩ := S2.out; exact ⟨s, hI.below hb2, r⟩)
        have R2 := Rd.of_own hown
        simp only [List.nil_append, Nat.zero_add] at R2
        have hA2 : Hid (∀ a, A2 = some a → a.block < p ∨ wr.heap.size ≤ a.block) := Lib.hid (fun a ha => .inr (hown.lt a.block (by rw [ha]; rfl)).1)
        replace R2 := Lib.hid R2
        replace hown := Lib.hid hown
        replace hgrow := Lib.hid hgrow
        replace hat := Lib.hid hat
        replace hb2 := Lib.hid hb2
        refine (turn_put (c2 := f) (by omega) S3.out R2.out hA2.out hto3.out.1 hto3.out.2.1 hebn.out.symm (fun i h1 h2 h3 => hcv.out i h1 h2 h3)).mono ?_
        rintro e w3 ⟨rfl, S4⟩
        replace S4 := Lib.hid S4
        go_wp2_with fail
        go_roundw
        case rel => exact ⟨k + 1, by omega, by go_num, by rw [hcn.out]; exact S4.out⟩
        case measure => simp [intOf]; omega
    · have hk3 : k = 2 * q := by omega
      have S3 : TurnSt D p wr.heap.size w wr 0 := by
        have := S2.out
        rw [hk3, tcov] at this
        split at this
        · have h1 := hq1.out
          have h2 : q = 0 := by omega
          rw [h2, Nat.zero_mul] at h1
          rwa [show D.length = 0 from by omega] at this
        · rwa [Nat.sub_self, Nat.zero_mul] at this
      replace S3 := Lib.hid S3
      have hdq : decide ((k : Int) < 2 * (q : Int)) = false := decide_eq_false (by omega)
      go_wp2_with fail
      refine (turn_end (by omega) S3.out).mono ?_
      rintro e w2 ⟨rfl, s, I5, P5, hrd, hen, hhi, hall⟩
      obtain ⟨f1, f2, _, _⟩ := part_all P5 (by omega) hall hen
      rw [hrd, Nat.sub_zero] at f1
      clear S2 S3
      have RS : Hid (ReadSt D p w2.heap.size 0 w w2 (.slice none 0 0)) := Lib.hid ⟨s, I5, P5, hrd, hen, hall, World.ownsRow_nil _ _ _ _, Nat.le_refl _⟩
      obtain ⟨N, hN⟩ : ∃ N, w2.heap.size = N := ⟨_, rfl⟩
      rw [hN] at RS I5
      replace hN := Lib.hid hN
      replace f1 := Lib.hid f1
      replace f2 := Lib.hid f2
      replace hhi := Lib.hid hhi
      replace hall := Lib.hid hall
      replace hen := Lib.hid hen
      replace hrd := Lib.hid hrd
      have hll : ((D.length : Int) != (D.length : Int)) = false := by simp
      have keep : ∀ (wa wb : World), ReadSt D p N 0 w wa (.slice none 0 0) → Still wa wb → ReadSt D p N 0 w wb (.slice none 0 0) := fun wa wb ⟨s, h1, h2, h3, h4, h5, h6, h7⟩ q => ⟨s, h1.still q, h2, h3, h4, h5, World.ownsRow_nil _ _ _ _, by rw [q.size]; exact h7⟩
      replace keep := Lib.hid keep
      go_wp2_with fail
      refine (whole_at I5).mono ?_
      rintro e w3 ⟨rfl, qs⟩
      rw [f2.out]
      replace I5 := I5.still qs
      replace RS := Lib.hid (keep.out _ _ RS.out qs)
      clear qs
      go_wp2_with fail
      refine (readable_at I5).mono ?_
      rintro e w4 ⟨rfl, qs⟩
      rw [f1.out]
      replace I5 := I5.still qs
      replace RS := Lib.hid (keep.out _ _ RS.out qs)
      clear qs
      go_wp2_with fail
      refine (high_at I5).mono ?_
      rintro e w5 ⟨rfl, qs⟩
      rw [hhi.out]
      replace I5 := I5.still qs
      replace RS := Lib.hid (keep.out _ _ RS.out qs)
      clear qs I5
      go_wp2_with fail
      go_loopw [15, 16] (fun v i wr => ∃ (k r : Nat) (AV : Option Addr) (cV : Nat), k ≤ D.length + 1 ∧ r ≤ D.length ∧ (k ≤ r ∨ r = D.length) ∧ i = .int .i64 k ∧ v = .slice AV r cV ∧ ReadSt D p N r w wr (.slice AV r cV)) (fun _ i _ => D.length + 1 - (intOf i).toNat)
      case atStart => exact ⟨0, 0, none, 0, by omega, by omega, by omega, rfl, rfl, RS.out⟩
      case round =>
        clear RS
        obtain ⟨k, r, AV, cV, hk, hr, hkr, rfl, rfl, RS⟩ := hrel
        replace RS := Lib.hid RS
        by_cases hkl : k < D.length + 1
        · have hle : decide ((k : Int) ≤ D.length) = true := decide_eq_true (by omega)
          go_wp2_with fail
          refine (turned_read (R := R) (by omega) hr RS.out).mono ?_
          rintro e w6 ⟨A6, c6, rfl, R6, O6, hN6, s6, I6, P6, r6, e6, all6⟩
          clear RS
          obtain ⟨n6, hn6⟩ : ∃ n6, min R (D.length - r) = n6 := ⟨_, rfl⟩
          rw [hn6] at R6 r6 ⊢
          have hn6b : n6 ≤ 120 ∧ r + n6 ≤ D.length ∧ (k + 1 ≤ r + n6 ∨ r + n6 = D.length) := by omega
          have hl6 : Hid (((D.drop r).take n6).length = n6) := Lib.hid (by simp; omega)
          replace R6 := Lib.hid R6
          replace O6 := Lib.hid O6
          replace r6 := Lib.hid r6
          replace e6 := Lib.hid e6
          replace all6 := Lib.hid all6
          replace hn6 := Lib.hid hn6
          go_wp2_with (at_builtin; refine wpList_app _ rfl _ _ 22 (by rfl) N 5 (.int .u8 0) 1 infoB Try.underlying22 rfl (.slice AV r cV) r (bv (D.take r)) (by rfl) O6.out A6 n6 c6 (bv ((D.drop r).take n6)) (by rfl) (by rw [bv_length]; exact hl6.out) R6.out (bv_one _) (by unfold maxLen; omega) (by omega) hN6 ?_; intro A7 c7 w7 hown hgrow hat)
          have RS2 : Hid (ReadSt D p N (r + n6) w w7 (.slice A7 (r + n6) c7)) := Lib.hid ⟨s6, I6.grown hgrow (fun k hk => (O6.out.lt k hk).1), P6, r6.out, e6.out, all6.out, by rw [← bv_append, ← List.take_add] at hown; exact hown, Nat.le_trans hN6 hgrow.size⟩
          replace hown := Lib.hid hown
          replace hgrow := Lib.hid hgrow
          replace hat := Lib.hid hat
          go_wp2_with fail
          go_roundw
          case rel => exact ⟨k + 1, r + n6, A7, c7, by omega, by omega, by omega, by go_num, rfl, RS2.out⟩
          case measure => simp [intOf]; omega
        · have hrl : r = D.length := by omega
          subst hrl
          obtain ⟨s7, I7, P7, r7, e7, all7, O7, _⟩ := RS.out
          have hnd := part_ended P7 r7 all7 e7
          rw [List.take_length] at O7
          have R7 := Rd.of_own O7
          have RD := HR.out.below (by rw [hp.out]; exact I7.bel)
          replace r7 := Lib.hid r7
          replace e7 := Lib.hid e7
          replace all7 := Lib.hid all7
          replace O7 := Lib.hid O7
          replace hnd := Lib.hid hnd
          replace R7 := Lib.hid R7
          replace RD := Lib.hid RD
          go_wp2_with fail
          refine (same_eq D D.length AV A cV cap _ rfl R7.out RD.out (by omega)).mono ?_
          rintro e w8 ⟨rfl, qs⟩
          replace I7 := I7.still qs
          clear qs
          go_wp2_with fail
          refine (ended_at I7).mono ?_
          rintro e w9 ⟨rfl, qs⟩
          rw [hnd.out]
          replace I7 := I7.still qs
          clear qs
          go_wp2_with fail
          refine (awake_any _).mono ?_
          rintro e wf ⟨rfl, hbf⟩
          go_wp2_with fail
          go_ret
          exact ⟨rfl, by rw [hp.out]; exact (I7.below hbf).bel⟩

set_option maxHeartbeats 2000000 in
theorem turned_out (n : Nat) (A : Option Addr) (cap : Nat) (a b c : Int) (w : World) (hn : n ≤ 9223372036854775807) (h : 120 < n) :
    Calls Try.prog 7 #[.slice A n cap, .int .i64 a, .int .i64 b, .int .i64 c] w fun e w' => e = .returned (.bool true) ∧ Below w.heap.size w w' := by
  go_enter Try.func7, Try.ntmps7
  go_wp2_with fail
  refine (awake_any _).mono ?_
  rintro e wf ⟨rfl, hbf⟩
  go_wp2_with fail
  go_ret
  exact ⟨rfl, hbf⟩
theorem turned_any (D : List UInt8) (A : Option Addr) (cap : Nat) (a b c : Int) (w : World) (hr : Rd w A (bv D)) (hc : D.length ≤ cap) (hcm : cap ≤ 9223372036854775807) :
    Calls Try.prog 7 #[.slice A D.length cap, .int .i64 a, .int .i64 b, .int .i64 c] w fun e w' => e = .returned (.bool true) ∧ Below w.heap.size w w' := by
  by_cases h : 120 < D.length
  · exact turned_out D.length A cap a b c w (by omega) h
  · obtain ⟨l1, hl1, D1⟩ := low_ex a 30 (by omega) (by omega)
    obtain ⟨r1, hr1, D2⟩ := low_ex c 40 (by omega) (by omega)
    obtain ⟨t, ht, D3⟩ := low_ex b 1000 (by omega) (by omega)
    exact turned_in D A cap a b c l1 r1 t w hr hc hcm (by omega) hl1 hr1 ht (Lib.hid D1) (Lib.hid D2) (Lib.hid D3)
end Go.Proofs.Ytlaomllgjiochaa
