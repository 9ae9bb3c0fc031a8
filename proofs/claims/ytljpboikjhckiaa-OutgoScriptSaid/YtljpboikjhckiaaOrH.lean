/- OutgoScript: what it answers. -/
import Derived.Test.YtljpboikjhckiaaOrG
import Derived.Test.YtljpboikjhckiaaRow
import Derived.Deep.CutRange
import Derived.Deep.Cut
import Derived.Deep.CutBlock
namespace Go.Proofs.Ytljpboikjhckiaa
open Go.RowKit

/-- The acts that came in: what each is, place by place. -/
structure AcIn (w : World) (A : Option Addr) (m : Nat) (vd va vn : Nat → Int) (ve : Nat → Bool) : Prop where
  pl : m = 0 ∨ ∃ b off, A = some ⟨b, off, none⟩
  at_ : ∀ b off, A = some ⟨b, off, none⟩ → ∀ i, i < m → w.cell? ⟨b, off + i * 4, none⟩ = some (.int .i64 (vd i)) ∧ w.cell? ⟨b, off + i * 4 + 1, none⟩ = some (.int .i64 (va i)) ∧ w.cell? ⟨b, off + i * 4 + 2, none⟩ = some (.int .i64 (vn i)) ∧ w.cell? ⟨b, off + i * 4 + 3, none⟩ = some (.bool (ve i))
  ra : ∀ i, i < m → -9223372036854775808 ≤ va i ∧ va i ≤ 9223372036854775807 ∧ -9223372036854775808 ≤ vn i ∧ vn i ≤ 9223372036854775807
theorem AcIn.lt {w : World} {A : Option Addr} {m : Nat} {vd va vn : Nat → Int} {ve : Nat → Bool} (h : AcIn w A m vd va vn ve) {b off i : Nat} (hA : A = some ⟨b, off, none⟩) (hi : i < m) : b < w.heap.size := block_lt_of_cell (h.at_ b off hA i hi).1
theorem AcIn.below {w w' : World} {A : Option Addr} {m : Nat} {vd va vn : Nat → Int} {ve : Nat → Bool} (h : AcIn w A m vd va vn ve) (f : Below w.heap.size w w') : AcIn w' A m vd va vn ve :=
  ⟨h.pl, fun b off e i hi => by
    have hb := h.lt e hi
    obtain ⟨h1, h2, h3, h4⟩ := h.at_ b off e i hi
    exact ⟨by rw [f.cell (p := ⟨b, _, none⟩) hb]; exact h1, by rw [f.cell (p := ⟨b, _, none⟩) hb]; exact h2, by rw [f.cell (p := ⟨b, _, none⟩) hb]; exact h3, by rw [f.cell (p := ⟨b, _, none⟩) hb]; exact h4⟩, h.ra⟩
theorem load4 {P : Program} {w : World} {b o : Nat} {v0 v1 v2 v3 : Value} (h0 : w.cell? ⟨b, o, none⟩ = some v0) (h1 : w.cell? ⟨b, o + 1, none⟩ = some v1) (h2 : w.cell? ⟨b, o + 2, none⟩ = some v2) (h3 : w.cell? ⟨b, o + 3, none⟩ = some v3) :
    Sem.run P (loadCellsFrom ⟨b, o, none⟩ 0 4 #[]) w = .ok #[v0, v1, v2, v3] w := by
  have := run_loadCells_list (P := P) (w := w) ⟨b, o, none⟩ [v0, v1, v2, v3] (fun j v hj => by
    rw [WideShapes.add_plain]
    rcases j with _ | _ | _ | _ | j
    · simp at hj; subst hj; exact h0
    · simp at hj; subst hj; exact h1
    · simp at hj; subst hj; exact h2
    · simp at hj; subst hj; exact h3
    · simp at hj)
  simpa [loadCells] using this
/-- A write into none of their blocks, from B on. -/
theorem OrSt.frT {B p g n cD q h cB : Nat} {w0 w w' : World} {AD BD : Option Addr} {D S S2 : List UInt8} {T : Nat → Prop} (s : OrSt B w0 w p g n AD cD q h BD cB D S S2) (f : Fr T w w') (hT : ∀ k, T k → B ≤ k ∧ k ≠ p ∧ k ≠ g ∧ k ≠ q ∧ k ≠ h ∧ (∀ a, AD = some a → k ≠ a.block) ∧ ∀ a, BD = some a → k ≠ a.block) : OrSt B w0 w' p g n AD cD q h BD cB D S S2 := by
  have l0 := s.lts
  exact ⟨s.o.fr f (fun t => (hT _ t).2.1 rfl) (fun t => (hT _ t).2.2.1 rfl) (fun a ha t => (hT _ t).2.2.2.2.2.1 a ha rfl), s.r.fr f (fun t => (hT _ t).2.2.2.1 rfl) (fun t => (hT _ t).2.2.2.2.1 rfl) (fun a ha t => (hT _ t).2.2.2.2.2.2 a ha rfl), s.ph, s.qg, s.gh, s.dA, s.dB, fun a ha => Nat.lt_of_lt_of_le (s.lA a ha) f.size, s.Bg, s.Bh, Fr.under s.bel (by omega) f (fun k hk _ => (hT k hk).1)⟩
theorem oNext_len (D S : List UInt8) (n : Nat) (x y : Int) : (oNext D S n x y).2.1.length ≤ D.length := by
  unfold oNext
  simp only
  split
  · simp
  · simp only [List.length_take, List.length_drop]; omega
/-- Both made. -/
theorem OrSt.made {w0 w1 w2 w3 : World} {p g n cD q h cB : Nat} {AD BD : Option Addr} {D S S2 : List UInt8} (b1 : Below w0.heap.size w0 w1) (io : IsOut w2 p g n AD cD D S) (b2 : Below w1.heap.size w1 w2) (hp : w1.heap.size ≤ p) (hg : w1.heap.size ≤ g) (hAD : ∀ a, AD = some a → w1.heap.size ≤ a.block) (hAl : ∀ a, AD = some a → a.block < w2.heap.size)
    (ir : IsRo w3 q h n BD cB D S2) (b3 : Below w2.heap.size w2 w3) (hq : w2.heap.size ≤ q) (hh : w2.heap.size ≤ h) (hBD : ∀ a, BD = some a → w2.heap.size ≤ a.block) : OrSt w0.heap.size w0 w3 p g n AD cD q h BD cB D S S2 := by
  have l := io.lt
  have z1 := b1.size
  have z2 := b2.size
  exact ⟨io.fr (Fr.of_below b3 NoS) (fun x => x) (fun x => x) (fun _ _ x => x), ir, by omega, by omega, by omega, fun a ha => by have := hAl a ha; omega, fun a ha => by have := hBD a ha; omega, fun a ha => Nat.lt_of_lt_of_le (hAl a ha) b3.size, by omega, by omega, b1.trans ((b2.mono (by omega)).trans (b3.mono (by omega)))⟩

set_option maxRecDepth 100000 in
set_option maxHeartbeats 16000000 in
theorem oscript_go (D : List UInt8) (A0 : Option Addr) (n c0 : Nat) (A1 : Option Addr) (m c1 : Nat) (vd va vn : Nat → Int) (ve : Nat → Bool) (w : World) (hn : D.length = n) (hr : Rd w A0 (bv D)) (hac : AcIn w A1 m vd va vn ve) (hs : n ≤ 60) (hm : m ≤ 60) :
    Calls Try.prog 3 #[.slice A0 n c0, .slice A1 m c1] w fun e w' => e = .returned (.bool true) ∧ Below w.heap.size w w' := by
  have CC := copied_any D A0 c0 w hr (by omega)
  rw [hn] at CC
  replace CC := Lib.hid CC
  replace hac := Lib.hid hac
  replace hr := Lib.hid hr
  replace hn := Lib.hid hn
  go_enter Try.func3, Try.ntmps3
  go_wp2_with fail
  refine CC.out.mono ?_
  rintro e w1 ⟨Ai, ci, rfl, oi, b1⟩
  have ri := Rd.of_own oi
  have CN := onew_any D Ai ci w1 ri (fun h => by rcases own_cases oi with ⟨_, _, h3, _⟩ | ⟨g, h3, _⟩; exact h3; rw [h] at h3; cases h3) (by have := hn.out; omega)
  rw [hn.out] at CN
  replace CN := Lib.hid CN
  have r0 := Lib.hid (hr.out.below b1)
  replace oi := Lib.hid oi
  replace b1 := Lib.hid b1
  clear ri CC
  go_wp2_with fail
  refine CN.out.mono ?_
  rintro e w2 ⟨p, g, AD, cD, rfl, io, b2, hp, hg, hAD, hAl⟩
  rw [hn.out] at io
  have CR := Lib.hid (rnew_any D A0 n c0 w2 hn.out (r0.out.below b2) (by omega))
  replace io := Lib.hid io
  replace b2 := Lib.hid b2
  replace hAD := Lib.hid hAD
  replace hAl := Lib.hid hAl
  clear CN
  go_wp2_with fail
  refine CR.out.mono ?_
  rintro e w3 ⟨q, h, BD, cB, rfl, ir, b3, hq, hh, hBD⟩
  have s3 := OrSt.made b1.out io.out b2.out hp hg hAD.out hAl.out ir b3 hq hh hBD
  have o3 : w3.ownsRow w.heap.size 5 1 (.slice Ai n ci) n (bv D) := own_fr (own_fr oi.out (Fr.of_below b2.out NoS) (fun _ _ x => x)) (Fr.of_below b3 NoS) (fun _ _ x => x)
  have li := oi.out.lt
  have CO := Lib.hid (over_any D Ai n ci w.heap.size w3 hn.out (by omega) o3)
  have HS : Hid (∀ w4, Fr (fun q => (Value.slice Ai n ci).ownBlock = some q) w3 w4 → OrSt w.heap.size w w4 p g n AD cD q h BD cB D (List.replicate (n + 1) 0) (List.replicate (n + 1) 0)) := Lib.hid (fun w4 f => s3.frT f (fun k hk => by
    have l1 := li k hk
    have z2 := b2.out.size
    exact ⟨l1.1, by omega, by omega, by omega, by omega, fun a ha => by have := hAD.out a ha; omega, fun a ha => by have := hBD a ha; omega⟩))
  replace s3 := Lib.hid s3
  clear CR o3 li b3 hBD ir
  go_wp2_with fail
  refine CO.out.mono ?_
  rintro e w4 ⟨rfl, f4⟩
  replace HS := Lib.hid (HS.out w4 f4)
  clear CO s3 f4
  go_wp2_with fail
  go_loopw [8] (fun i wr => ∃ (k : Nat) (S : List UInt8), k ≤ m ∧ i = .int .i64 k ∧ Hid (OrSt w.heap.size w wr p g n AD cD q h BD cB D S S)) (fun i _ => m - (intOf i).toNat)
  case atStart => exact ⟨0, _, by omega, rfl, HS⟩
  case round =>
    clear HS
    obtain ⟨k, S, hk, rfl, HS⟩ := hrel
    by_cases hkm : k < m
    · obtain ⟨b, off, rfl⟩ : ∃ b off, A1 = some ⟨b, off, none⟩ := by
        rcases hac.out.pl with h0 | h0
        · omega
        · exact h0
      obtain ⟨z0, z1, z2, z3⟩ := (hac.out.below (HS.out.bel)).at_ b off rfl k hkm
      obtain ⟨ra0, ra1, rn0, rn1⟩ := hac.out.ra k hkm
      obtain ⟨d, hd⟩ : ∃ d, vd k = d := ⟨_, rfl⟩
      obtain ⟨x, hx⟩ : ∃ x, va k = x := ⟨_, rfl⟩
      obtain ⟨y, hy⟩ : ∃ y, vn k = y := ⟨_, rfl⟩
      obtain ⟨en, he⟩ : ∃ en, ve k = en := ⟨_, rfl⟩
      rw [hd] at z0
      rw [hx] at z1 ra0 ra1
      rw [hy] at z2 rn0 rn1
      rw [he] at z3
      clear hd hx hy he
      have L4 := load4 (P := Try.prog) z0 z1 z2 z3
      go_upto_block 2 with fail
      obtain ⟨wa, hwa⟩ : ∃ wa, wr.alloc (.cells #[.int .i64 d, .int .i64 x, .int .i64 y, .bool en] 32) = wa := ⟨_, rfl⟩
      obtain ⟨bx, hbx⟩ : ∃ bx, wr.heap.size = bx := ⟨_, rfl⟩
      have X0 : wa.heap[bx]? = some (.cells #[.int .i64 d, .int .i64 x, .int .i64 y, .bool en] 32 (0, 0)) := by rw [← hwa, ← hbx]; exact heap_alloc_new wr _
      have SA : OrSt w.heap.size w wa p g n AD cD q h BD cB D S S := by rw [← hwa]; exact HS.out.alloc _
      have hxg : bx ≠ g := by have := HS.out.lts; omega
      have hxh : bx ≠ h := by have := HS.out.lts; omega
      rw [hwa, hbx]
      clear L4 z0 z1 z2 z3 hwa hbx HS
      have y0 := wrote_cell X0 0 _ rfl
      have y1 := wrote_cell X0 1 _ rfl
      have y2 := wrote_cell X0 2 _ rfl
      have y3 := wrote_cell X0 3 _ rfl
      replace X0 := Lib.hid X0
      replace SA := Lib.hid SA
      go_cut [10, 11, 12, 13, 14, 15, 16, 17] from 57 to 137 (fun _ _ _ _ _ _ _ _ wx => Hid (∃ S', OrSt w.heap.size w wx p g n AD cD q h BD cB D S' S'))
      case first =>
        by_cases h0 : d = 0
        · have e0 : (d == 0) = true := beq_iff_eq.2 h0
          replace h0 := Lib.hid h0
          obtain ⟨a, l, eo, ok, S1, hN⟩ : ∃ a l eo ok S1, oNext D S n x y = (a, l, eo, ok, S1) := ⟨_, _, _, _, _, rfl⟩
          have hl60 : l.length ≤ D.length := by have := oNext_len D S n x y; rw [hN] at this; exact this
          obtain ⟨kl, hkl⟩ : ∃ kl, l.length = kl := ⟨_, rfl⟩
          rw [hkl, hn.out] at hl60
          have haa : (a != a) = false := by simp
          have hee : (eo != eo) = false := by simp
          have hoo : (ok != ok) = false := by simp
          replace hN := Lib.hid hN
          replace hkl := Lib.hid hkl
          go_wp2_with fail
          refine (SA.out.next_p x y a l kl eo ok S1 ra0 ra1 rn0 rn1 hkl.out hN.out).mono ?_
          rintro e wb ⟨A2, c2, rfl, o2, sb, f2⟩
          replace sb := Lib.hid sb
          have X1 := heap_fr X0.out f2 hxg
          have y0 := wrote_cell X1 0 _ rfl
          have y1 := wrote_cell X1 1 _ rfl
          have y2 := wrote_cell X1 2 _ rfl
          have y3 := wrote_cell X1 3 _ rfl
          have l2 := o2.lt
          replace o2 := Lib.hid o2
          replace l2 := Lib.hid l2
          clear X1 f2
          go_wp2_with fail
          refine (sb.out.next_r x y a l kl eo ok S1 ra0 ra1 rn0 rn1 hkl.out hN.out).mono ?_
          rintro e wc ⟨A3, c3, rfl, o3, sc, f3⟩
          have lts := SA.out.lts
          have o2c : wc.ownsRow wa.heap.size 5 1 (.slice A2 kl c2) kl (bv l) := own_fr o2.out f3 (fun j hj e => by have := (l2.out j hj).1; omega)
          have r3 := Lib.hid (Rd.of_own o3)
          replace sc := Lib.hid sc
          replace o2c := Lib.hid o2c
          replace lts := Lib.hid lts
          clear f3 o3
          go_wp2_with fail
          refine (same_eq l kl A2 A3 c2 c3 wc hkl.out (Rd.of_own o2c.out) r3.out (by omega)).mono ?_
          rintro e wd ⟨rfl, st⟩
          have sd := Lib.hid (sc.out.still st)
          have o2d : Hid (wd.ownsRow wa.heap.size 5 1 (.slice A2 kl c2) kl (bv l)) := Lib.hid (own_fr o2c.out (Fr.of_below st.below NoS) (fun _ _ x => x))
          clear st
          go_wp2_with fail
          refine (OrSt.over sd.out hkl.out (by omega) o2d.out lts.out.2.1 lts.out.2.2.1 SA.out.lA lts.out.2.2.2.1 lts.out.2.2.2.2 SA.out.r.lt (by have := lts.out.1; omega)).mono ?_
          rintro e we ⟨rfl, se⟩
          replace se := Lib.hid se
          go_wp2_with fail
          go_meet
          exact Lib.hid ⟨_, se.out⟩
        · have e0 : (d == 0) = false := beq_eq_false_iff_ne.2 h0
          replace h0 := Lib.hid h0
          by_cases h1 : d = 1
          · have e1 : (d == 1) = true := beq_iff_eq.2 h1
            replace h1 := Lib.hid h1
            go_wp2_with fail
            refine (SA.out.there_p x y en ra0 ra1 rn0 rn1).mono ?_
            rintro e wb ⟨rfl, sb, f2⟩
            replace sb := Lib.hid sb
            have X1 := heap_fr X0.out f2 hxg
            have y0 := wrote_cell X1 0 _ rfl
            have y1 := wrote_cell X1 1 _ rfl
            have y2 := wrote_cell X1 2 _ rfl
            have y3 := wrote_cell X1 3 _ rfl
            clear X1 f2
            go_wp2_with fail
            refine (sb.out.there_r x y en ra0 ra1 rn0 rn1).mono ?_
            rintro e wc ⟨rfl, sc, f3⟩
            replace sc := Lib.hid sc
            clear f3
            go_wp2_with fail
            go_meet
            exact Lib.hid ⟨_, sc.out⟩
          · have e1 : (d == 1) = false := beq_eq_false_iff_ne.2 h1
            replace h1 := Lib.hid h1
            by_cases h2 : d = 2
            · have e2 : (d == 2) = true := beq_iff_eq.2 h2
              replace h2 := Lib.hid h2
              go_wp2_with fail
              refine (SA.out.lost_p x y en ra0 ra1 rn0 rn1).mono ?_
              rintro e wb ⟨rfl, sb, f2⟩
              replace sb := Lib.hid sb
              have X1 := heap_fr X0.out f2 hxg
              have y0 := wrote_cell X1 0 _ rfl
              have y1 := wrote_cell X1 1 _ rfl
              have y2 := wrote_cell X1 2 _ rfl
              have y3 := wrote_cell X1 3 _ rfl
              clear X1 f2
              go_wp2_with fail
              refine (sb.out.lost_r x y en ra0 ra1 rn0 rn1).mono ?_
              rintro e wc ⟨rfl, sc, f3⟩
              replace sc := Lib.hid sc
              clear f3
              go_wp2_with fail
              go_meet
              exact Lib.hid ⟨_, sc.out⟩
            · have e2 : (d == 2) = false := beq_eq_false_iff_ne.2 h2
              replace h2 := Lib.hid h2
              go_wp2_with fail
              go_meet
              exact Lib.hid ⟨_, SA.out⟩
      case rest =>
        obtain ⟨S', HS⟩ := hcut.out
        clear y0 y1 y2 y3 X0 SA hcut
        obtain ⟨sn, hsn⟩ : ∃ sn, cntNe (S'.take n) 0 = sn := ⟨_, rfl⟩
        obtain ⟨lf, hlf⟩ : ∃ lf, cntNe (S'.take n) 3 = lf := ⟨_, rfl⟩
        obtain ⟨dn, hdn⟩ : ∃ dn, odone S' n = dn := ⟨_, rfl⟩
        have hs1 : ((sn : Int) != sn) = false := by simp
        have hl1 : ((lf : Int) != lf) = false := by simp
        have hdd : (dn != dn) = false := by simp
        replace hsn := Lib.hid hsn
        replace hlf := Lib.hid hlf
        replace hdn := Lib.hid hdn
        go_wp2_with fail
        refine (HS.counts sn lf dn hsn.out hlf.out hdn.out).mono ?_
        rintro e v1 ⟨rfl, s1⟩
        clear HS
        go_wp2_with fail
        refine (s1.sent sn hsn.out).mono ?_
        rintro e v2 ⟨rfl, s2⟩
        clear s1
        go_wp2_with fail
        refine (s2.lefts lf hlf.out).mono ?_
        rintro e v3 ⟨rfl, s3⟩
        clear s2
        go_wp2_with fail
        refine (s3.done dn hdn.out).mono ?_
        rintro e v4 ⟨rfl, s4⟩
        clear s3
        replace s4 := Lib.hid s4
        go_wp2_with fail
        go_roundw
        case rel => exact ⟨k + 1, _, by omega, by go_num, s4⟩
        case measure => simp [intOf]; omega
    · have hb := Lib.hid HS.out.bel
      have hbs := HS.out.lts.1
      clear HS
      go_wp2_with fail
      refine (zthere wr 0 1 true).mono ?_
      rintro e w5 ⟨rfl, b5⟩
      replace hb := Lib.hid (hb.out.trans (b5.mono (by omega)))
      have hbs5 := Nat.lt_of_lt_of_le hbs b5.size
      clear b5
      go_wp2_with fail
      refine (znext w5 1 1).mono ?_
      rintro e w6 ⟨rfl, rfl⟩
      go_wp2_with fail
      refine (zdone w5).mono ?_
      rintro e w6 ⟨rfl, b6⟩
      replace hb := Lib.hid (hb.out.trans (b6.below.mono (by omega)))
      have hbs6 := Nat.lt_of_lt_of_le hbs5 b6.below.size
      clear b6
      go_wp2_with fail
      refine (zleft w6).mono ?_
      rintro e w7 ⟨rfl, rfl⟩
      go_wp2_with fail
      refine (awake_any w6).mono ?_
      rintro e w7 ⟨rfl, b7⟩
      replace hb := Lib.hid (hb.out.trans (b7.mono (by omega)))
      clear b7
      go_wp2_with fail
      go_ret
      exact ⟨rfl, hb.out⟩
end Go.Proofs.Ytljpboikjhckiaa
