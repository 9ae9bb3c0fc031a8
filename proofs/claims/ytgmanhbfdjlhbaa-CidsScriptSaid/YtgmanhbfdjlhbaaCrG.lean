/- CidsScript: the walk, where there is a pool. (Printed by gen_crG.py.) -/
import Derived.Test.YtgmanhbfdjlhbaaCrF
namespace Go.Proofs.Ytgmanhbfdjlhbaa
open Go.RowKit

set_option maxRecDepth 100000 in
set_option maxHeartbeats 16000000 in
theorem cscript_go (first : List UInt8) (A0 A1 : Option Addr) (c0 m c1 : Nat) (vd vp : Nat → Int) (vq : Nat → Nat) (vA : Nat → Option Addr) (va : Nat → Nat) (vC : Nat → List UInt8) (vB : Nat → Option Addr) (vb : Nat → Nat) (vT : Nat → List UInt8) (w : World) (h8 : first.length = 8) (hr0 : Rd w A0 (bv first)) (hac : AcIn w A1 m vd vp vq vA va vC vB vb vT) (hm : m ≤ 40) :
    Calls Try.prog 3 #[.slice A0 8 c0, .slice A1 m c1] w fun e w' => e = .returned (.bool true) ∧ Below w.heap.size w w' := by
  have CN := Lib.hid (cnew_at (P := fun k => k < w.heap.size) (fun _ h => h) first A0 c0 h8 hr0)
  have CR := Lib.hid (fun W (b : Below w.heap.size w W) => rnew_any first A0 c0 W h8 (hr0.below b))
  have hs0 : Hid (SimC (cnew first) (cnew first) ∧ cfree (cnew first).l ≤ 8) := Lib.hid ⟨SimC.new first h8, by simp [cnew, cfree, Nm.free]⟩
  replace hac := Lib.hid hac
  have d1 : decide ((40 : Int) < (m : Int)) = false := decide_eq_false (by omega)
  have d1n : decide (40 < m) = false := decide_eq_false (by omega)
  clear h8 hr0
  go_enter Try.func3, Try.ntmps3
  go_wp2_with fail
  refine CN.out.mono ?_
  rintro e w1 ⟨p, rfl, I1, b1, hp⟩
  replace I1 := Lib.hid I1
  replace b1 := Lib.hid b1
  replace hp := Lib.hid hp
  clear CN
  go_wp2_with fail
  refine (CR.out _ b1.out).mono ?_
  rintro e w2 ⟨q, A2, c2, rfl, hq, I2, b2, hA2⟩
  have HS : Hid ((∃ r, CdSt (fun k => k < w.heap.size) w2 p q (cnew first) r 0) ∧ Below w.heap.size w w2) := Lib.hid ⟨⟨_, Two.new okC I1.out ⟨A2, c2, I2, rfl⟩ b2 (fun k hk => by
      rcases hk with rfl | ⟨a, ha, hk⟩
      · exact hq
      · have := hA2 a ha; omega), hs0.out.1, by simp [cnew], hs0.out.2⟩, b1.out.trans (b2.mono b1.out.size)⟩
  clear CR I1 I2 b1 b2 hs0 hp hq hA2 d1 d1n
  go_wp2_with fail
  go_loopw [7] (fun i wr => ∃ (k : Nat) (s : Cd), k ≤ m ∧ i = .int .i64 k ∧ Hid ((∃ r, CdSt (fun k => k < w.heap.size) wr p q s r k) ∧ Below w.heap.size w wr)) (fun i _ => m - (intOf i).toNat)
  case atStart => exact ⟨0, _, by omega, rfl, HS⟩
  case round =>
    clear HS
    obtain ⟨k, s, hk, rfl, HS⟩ := hrel
    by_cases hkm : k < m
    · obtain ⟨b, off, rfl⟩ : ∃ b off, A1 = some ⟨b, off, none⟩ := by
        rcases hac.out.pl with h0 | h0
        · omega
        · exact h0
      have hacr := hac.out.below HS.out.2
      obtain ⟨z0, z1, z2, z3, z4⟩ := hacr.at_ b off rfl k hkm
      obtain ⟨rc0, lc⟩ := hac.out.rc k hkm
      obtain ⟨rt0, lt⟩ := hac.out.rt k hkm
      obtain ⟨d, hd⟩ : ∃ x, vd k = x := ⟨_, rfl⟩
      obtain ⟨u, hu⟩ : ∃ x, vp k = x := ⟨_, rfl⟩
      obtain ⟨y, hy⟩ : ∃ x, vq k = x := ⟨_, rfl⟩
      obtain ⟨AC, hAC⟩ : ∃ x, vA k = x := ⟨_, rfl⟩
      obtain ⟨ca, hca⟩ : ∃ x, va k = x := ⟨_, rfl⟩
      obtain ⟨C, hC⟩ : ∃ x, vC k = x := ⟨_, rfl⟩
      obtain ⟨nc, hnc⟩ : ∃ x, C.length = x := ⟨_, rfl⟩
      obtain ⟨AT, hAT⟩ : ∃ x, vB k = x := ⟨_, rfl⟩
      obtain ⟨cb, hcb⟩ : ∃ x, vb k = x := ⟨_, rfl⟩
      obtain ⟨T, hT⟩ : ∃ x, vT k = x := ⟨_, rfl⟩
      obtain ⟨nt, hnt⟩ : ∃ x, T.length = x := ⟨_, rfl⟩
      rw [hd] at z0
      rw [hu] at z1
      rw [hy] at z2
      rw [hAC, hC, hca, hnc] at z3
      rw [hAT, hT, hcb, hnt] at z4
      rw [hAC, hC] at rc0
      rw [hC, hnc] at lc
      rw [hAT, hT] at rt0
      rw [hT, hnt] at lt
      clear hd hu hy hAC hca hC hAT hcb hT hacr
      replace hnc := Lib.hid hnc
      replace hnt := Lib.hid hnt
      replace rc0 := Lib.hid rc0
      replace rt0 := Lib.hid rt0
      have L5 := load5 (P := Try.prog) z0 z1 z2 z3 z4
      obtain ⟨wa, hwa⟩ : ∃ wa, wr.alloc (.cells #[.int .i64 d, .int .i64 u, .int .u64 (y : Int), .slice AC nc ca, .slice AT nt cb] 34) = wa := ⟨_, rfl⟩
      obtain ⟨bx, hbx⟩ : ∃ bx, wr.heap.size = bx := ⟨_, rfl⟩
      have X0 : wa.heap[bx]? = some (.cells #[.int .i64 d, .int .i64 u, .int .u64 (y : Int), .slice AC nc ca, .slice AT nt cb] 34 (0, 0)) := by rw [← hwa, ← hbx]; exact heap_alloc_new wr _
      have ba : Below wr.heap.size wr wa := by rw [← hwa]; exact (Below.refl _ wr).alloc (Nat.le_refl _) _
      have MA : Hid (CMid w (P0 w bx) wa p q bx #[.int .i64 d, .int .i64 u, .int .u64 (y : Int), .slice AC nc ca, .slice AT nt cb] k s) := Lib.hid (by
        obtain ⟨⟨r, hr⟩, hb⟩ := HS.out
        have hbs := hb.size
        exact ⟨⟨r, hr.two.widen okC okD (fun j hj => by
          rcases hj with h | h
          · exact .inl h
          · exact .inr (by omega)) ba (fun j hj => by
          have := heap_lt X0
          rcases hj with h | h <;> omega), hr.sim, hr.small, hr.few⟩, X0, hb.trans (ba.mono hbs), by omega, fun _ h => h⟩)
      have hk90 : k ≤ 90 := by omega
      obtain ⟨y0, y1, y2, y3, y4⟩ := cell5 X0
      by_cases hlen : 40 < nc ∨ 40 < nt
      · have HB : Hid (Below w.heap.size w wa ∧ w.heap.size ≤ wa.heap.size) := Lib.hid ⟨MA.out.bel, MA.out.bel.size⟩
        rename_i aa; clear aa
        rcases Nat.lt_or_ge 40 nc with h1 | h1
        · have e1 : decide ((40 : Int) < (nc : Int)) = true := decide_eq_true (by omega)
          have e1n : decide (40 < nc) = true := decide_eq_true h1
          clear hlen MA
          go_wp2_with fail
          try rw [hwa]
          try rw [hbx]
          clear hwa L5 z0 z1 z2 z3 z4 HS ba X0 y0 y1 y2 y3 y4
          refine (awake_any wa).mono ?_
          rintro e w5 ⟨rfl, b5⟩
          go_wp2_with fail
          go_ret
          exact ⟨rfl, HB.out.1.trans (b5.mono HB.out.2)⟩
        · have h2 : 40 < nt := by omega
          have e1 : decide ((40 : Int) < (nc : Int)) = false := decide_eq_false (by omega)
          have e1n : decide (40 < nc) = false := decide_eq_false (by omega)
          have e2 : decide ((40 : Int) < (nt : Int)) = true := decide_eq_true (by omega)
          have e2n : decide (40 < nt) = true := decide_eq_true h2
          clear hlen MA
          go_wp2_with fail
          try rw [hwa]
          try rw [hbx]
          clear hwa L5 z0 z1 z2 z3 z4 HS ba X0 y0 y1 y2 y3 y4
          refine (awake_any wa).mono ?_
          rintro e w5 ⟨rfl, b5⟩
          go_wp2_with fail
          go_ret
          exact ⟨rfl, HB.out.1.trans (b5.mono HB.out.2)⟩
      · rename_i aa; clear aa
        have hc40 : nc ≤ 40 := by omega
        have ht40 : nt ≤ 40 := by omega
        have e1 : decide ((40 : Int) < (nc : Int)) = false := decide_eq_false (by omega)
        have e1n : decide (40 < nc) = false := decide_eq_false (by omega)
        have e2 : decide ((40 : Int) < (nt : Int)) = false := decide_eq_false (by omega)
        have e2n : decide (40 < nt) = false := decide_eq_false (by omega)
        clear hlen
        go_upto_block 2 with fail
        try rw [hwa]
        try rw [hbx]
        clear L5 z0 z1 z2 z3 z4 hwa hbx HS ba X0 e1 e1n e2 e2n
        go_cut [9, 10, 11, 12, 13, 14] from 74 to 137 (fun _ _ _ _ _ _ wx => Hid (∃ s', CMid w (P0 w bx) wx p q bx #[.int .i64 d, .int .i64 u, .int .u64 (y : Int), .slice AC nc ca, .slice AT nt cb] (k + 1) s'))
        case first =>
          have ST := MA.out.st
          have MD := Lib.hid (MA.out.below (Still.drew wa).below)
          by_cases h0 : d = 0
          · have e0 : (d == 0) = true := beq_iff_eq.2 h0
            replace h0 := Lib.hid h0
            obtain ⟨v, hv⟩ : ∃ v, caddE s.l y C T = v := ⟨_, rfl⟩
            obtain ⟨s2, hs2⟩ : ∃ s2, cadd s y C T = s2 := ⟨_, rfl⟩
            have hvv : (v != v) = false := by simp
            replace hv := Lib.hid hv
            replace hs2 := Lib.hid hs2
            have RC := Lib.hid (MD.out.rd rc0.out)
            have RT := Lib.hid (MD.out.rd rt0.out)
            have HX : Hid (∀ W, Below wa.drew.heap.size wa.drew W → W.heap[bx]? = some (.cells #[.int .i64 d, .int .i64 u, .int .u64 (y : Int), .slice AC nc ca, .slice AT nt cb] 34 (0, 0))) := Lib.hid (fun W b => (MD.out.below b).x)
            clear ST
            go_wp2_with fail
            go_region_held3 (fun W => W.cell? ⟨bx, 0, none⟩ = some (.int .i64 d) ∧ W.cell? ⟨bx, 1, none⟩ = some (.int .i64 u) ∧ W.cell? ⟨bx, 2, none⟩ = some (.int .u64 (y : Int)) ∧ W.cell? ⟨bx, 3, none⟩ = some (.slice AC nc ca) ∧ W.cell? ⟨bx, 4, none⟩ = some (.slice AT nt cb)) (first | assumption | exact cell5 (HX.out _ (by assumption)) | exact cell5 (HX.out _ (Below.refl _ _))) (first
              | (go_at_call 13; refine (copied_to T nt AT cb _ hnt.out (RT.out.below b3) (by omega)).mono ?_; rintro e1 w4 ⟨A4, c4, rfl, o4, b4⟩; have b4' := b3.trans (b4.mono b3.size))
              | (go_at_call 13; refine (copied_to C nc AC ca _ hnc.out RC.out (by omega)).mono ?_; rintro e1 w3 ⟨A3, c3, rfl, o3, b3⟩))
            have hbx := MD.out.blt
            have M3 := MD.out.own o3 (Nat.le_refl _) b3
            have M4 := M3.own o4 (Nat.le_refl _) b4
            have O3 := own_fr o3 (Fr.of_below b4 NoS) (fun _ _ x => x)
            have hv3 : Hid (∀ j, (Value.slice A3 nc c3).ownBlock = some j → bx < j) := Lib.hid (fun j hj => by have := (o3.lt j hj).1; omega)
            have hv4 : Hid (∀ j, (Value.slice A4 nt c4).ownBlock = some j → bx < j) := Lib.hid (fun j hj => by have := (o4.lt j hj).1; have := b3.size; omega)
            have h34 : Hid (∀ j, (Value.slice A4 nt c4).ownBlock = some j → ¬ (Value.slice A3 nc c3).ownBlock = some j) := Lib.hid (fun j hj h => by have := (o4.lt j hj).1; have := (o3.lt j h).2; omega)
            have O3d := Lib.hid ((Still.drew w4).own O3)
            have O4d := Lib.hid ((Still.drew w4).own o4)
            obtain ⟨y0, y1, y2, y3, y4⟩ := cell5 M4.x
            replace M4 := Lib.hid (M4.below (Still.drew w4).below)
            clear HX RC RT MD M3 O3 o3 o4 b3 b4 b4' hbx
            obtain ⟨r, ST⟩ := M4.out.st
            replace ST := Lib.hid ST
            have R3 := Lib.hid (Rd.of_own O3d.out)
            have R4 := Lib.hid (Rd.of_own O4d.out)
            have HX : Hid (∀ W, Fr (NotP (fun j => (P0 w bx j ∨ (Value.slice A3 nc c3).ownBlock = some j) ∨ (Value.slice A4 nt c4).ownBlock = some j)) w4.drew W → W.heap[bx]? = some (.cells #[.int .i64 d, .int .i64 u, .int .u64 (y : Int), .slice AC nc ca, .slice AT nt cb] 34 (0, 0))) := Lib.hid (fun W F => M4.out.fx F)
            have RDC : Hid (∀ W, Fr (NotP (fun j => (P0 w bx j ∨ (Value.slice A3 nc c3).ownBlock = some j) ∨ (Value.slice A4 nt c4).ownBlock = some j)) w4.drew W → Rd W AC (bv C)) := Lib.hid (fun W F => rc0.out.below (M4.out.fbel F))
            have RDT : Hid (∀ W, Fr (NotP (fun j => (P0 w bx j ∨ (Value.slice A3 nc c3).ownBlock = some j) ∨ (Value.slice A4 nt c4).ownBlock = some j)) w4.drew W → Rd W AT (bv T)) := Lib.hid (fun W F => rt0.out.below (M4.out.fbel F))
            go_wp2_with fail
            go_region_held3 (fun W => W.cell? ⟨bx, 0, none⟩ = some (.int .i64 d) ∧ W.cell? ⟨bx, 1, none⟩ = some (.int .i64 u) ∧ W.cell? ⟨bx, 2, none⟩ = some (.int .u64 (y : Int)) ∧ W.cell? ⟨bx, 3, none⟩ = some (.slice AC nc ca) ∧ W.cell? ⟨bx, 4, none⟩ = some (.slice AT nt cb)) (first | assumption | exact cell5 (HX.out _ (by assumption)) | exact cell5 (HX.out _ (Fr.refl _ _))) (first
              | (go_at_call 14; refine (add_t2 v s2 ST.out hk90 T5.out y C T AC AT nc nt ca cb hnc.out hnt.out (RDC.out _ F5) (RDT.out _ F5) hv.out hs2.out).mono ?_; rintro e1 w6 ⟨rfl, S6, F6⟩; replace F6 := F5.trans F6; replace S6 := Lib.hid S6)
              | (go_at_call 11; refine (add_t1 v s2 ST.out hk90 y C T A3 A4 nc nt c3 c4 hnc.out hnt.out R3.out R4.out hv.out hs2.out).mono ?_; rintro e1 w5 ⟨rfl, T5, F5⟩; replace T5 := Lib.hid T5))
            have M6 := Lib.hid (M4.out.step F6 S6.out (fun _ h => h))
            have O3' := Lib.hid (own_fr O3d.out F6 (fun j hj hn => hn (.inl (.inr hj))))
            have O4' := Lib.hid (own_fr O4d.out F6 (fun j hj hn => hn (.inr hj)))
            clear HX RDC RDT ST M4 O3d O4d R3 R4 F5 F6 S6 T5 hv hs2 y0 y1 y2 y3 y4
            go_wp2_with fail
            refine (over_any C A3 nc c3 _ w6 hnc.out (by omega) O3'.out).mono ?_
            rintro e w7 ⟨rfl, f7⟩
            have M7 := Lib.hid (M6.out.over f7 (fun j hj => ⟨.inl (.inr hj), hv3.out j hj⟩))
            have O7 := Lib.hid (own_fr O4'.out f7 (fun j hj => h34.out j hj))
            clear M6 O3' O4' f7
            go_wp2_with fail
            refine (over_any T A4 nt c4 _ w7 hnt.out (by omega) O7.out).mono ?_
            rintro e w8 ⟨rfl, f8⟩
            have M8 := Lib.hid ((M7.out.over f8 (fun j hj => ⟨.inr hj, hv4.out j hj⟩)).to0)
            clear M7 O7 f8
            go_wp2_with fail
            go_meet
            exact Lib.hid ⟨_, M8.out⟩
          · have e0 : (d == 0) = false := beq_eq_false_iff_ne.2 h0
            replace h0 := Lib.hid h0
            by_cases h1 : d = 1
            · have e1 : (d == 1) = true := beq_iff_eq.2 h1
              replace h1 := Lib.hid h1
              obtain ⟨s2, hs2⟩ : ∃ x, (cforBy cpick s u).1 = x := ⟨_, rfl⟩
              obtain ⟨o, ho⟩ : ∃ x, (cforBy cpick s u).2 = x := ⟨_, rfl⟩
              have hso : Hid (cforBy cpick s u = (s2, o)) := Lib.hid (by rw [← hs2, ← ho])
              clear hs2 ho
              obtain ⟨r, ST⟩ := ST
              have h8 := for_few ST hso.out
              obtain ⟨D, hD⟩ : ∃ x, oD o = x := ⟨_, rfl⟩
              rw [hD] at h8
              obtain ⟨n, hn⟩ : ∃ x, D.length = x := ⟨_, rfl⟩
              rw [hn] at h8
              obtain ⟨b, hb⟩ : ∃ x, o.isSome = x := ⟨_, rfl⟩
              have hbb : (b != b) = false := by simp
              replace hD := Lib.hid hD
              replace hn := Lib.hid hn
              replace hb := Lib.hid hb
              replace ST := Lib.hid ST
              clear MD
              go_wp2_with fail
              refine (for_t1 s2 o D n b ST.out u hso.out hD.out hn.out hb.out).mono ?_
              rintro e w3 ⟨A3, c3, rfl, o3, T3, F3⟩
              have hv3 : Hid (∀ j, (Value.slice A3 n c3).ownBlock = some j → bx < j) := Lib.hid (fun j hj => by have := (o3.lt j hj).1; have := MA.out.blt; omega)
              obtain ⟨x0, x1, x2, x3, x4⟩ := cell5 (MA.out.fx F3)
              replace T3 := Lib.hid T3
              replace o3 := Lib.hid o3
              clear y0 y1 y2 y3 y4
              go_wp2_with fail
              refine (for_t2 s2 o D n b ST.out T3.out u hso.out hD.out hn.out hb.out).mono ?_
              rintro e w4 ⟨A4, c4, rfl, R4, S4, F4⟩
              have M4 := Lib.hid (MA.out.step (F3.trans (notP_mono (fun _ h => .inl h) F4)) S4 (fun _ h => .inl h))
              have O4 := Lib.hid (own_fr o3.out F4 (fun j hj hn => hn (.inr hj)))
              replace R4 := Lib.hid R4
              clear T3 o3 S4 F4 F3 ST hso hD hb x0 x1 x2 x3 x4
              go_wp2_with fail
              refine (same_to true D D n n A3 A4 c3 c4 w4 hn.out hn.out (Rd.of_own O4.out) R4.out (by omega) (by omega) (by simp)).mono ?_
              rintro e w5 ⟨rfl, st⟩
              have M5 := Lib.hid (M4.out.below st.below)
              have O5 := Lib.hid (st.own O4.out)
              clear M4 O4 R4 st
              go_wp2_with fail
              refine (over_any D A3 n c3 _ w5 hn.out (by omega) O5.out).mono ?_
              rintro e w6 ⟨rfl, f6⟩
              have M6 := Lib.hid ((M5.out.over f6 (fun j hj => ⟨.inr hj, hv3.out j hj⟩)).to0)
              clear M5 O5 f6
              go_wp2_with fail
              go_meet
              exact Lib.hid ⟨_, M6.out⟩
            · have e1 : (d == 1) = false := beq_eq_false_iff_ne.2 h1
              replace h1 := Lib.hid h1
              by_cases h2 : d = 2
              · have e2 : (d == 2) = true := beq_iff_eq.2 h2
                replace h2 := Lib.hid h2
                obtain ⟨s2, hs2⟩ : ∃ x, (cret s).1 = x := ⟨_, rfl⟩
                obtain ⟨o, ho⟩ : ∃ x, (cret s).2 = x := ⟨_, rfl⟩
                have hso : Hid (cret s = (s2, o)) := Lib.hid (by rw [← hs2, ← ho])
                clear hs2 ho
                obtain ⟨r, ST⟩ := ST
                have h8 := ret_few ST hso.out
                obtain ⟨n, hn⟩ : ∃ x, o.length = x := ⟨_, rfl⟩
                rw [hn] at h8
                replace hn := Lib.hid hn
                replace ST := Lib.hid ST
                clear MD
                go_wp2_with fail
                refine (ret_t1 s2 o n ST.out hso.out hn.out).mono ?_
                rintro e w3 ⟨A3, c3, rfl, o3, T3, F3⟩
                replace T3 := Lib.hid T3
                replace o3 := Lib.hid o3
                go_wp2_with fail
                refine (ret_t2 s2 o n ST.out T3.out hso.out hn.out).mono ?_
                rintro e w4 ⟨A4, c4, rfl, R4, S4, F4⟩
                have M4 := Lib.hid ((MA.out.step (F3.trans (notP_mono (fun _ h => .inl h) F4)) S4 (fun _ h => .inl h)).to0)
                have R3 := Lib.hid (Rd.of_own (own_fr o3.out F4 (fun j hj hn => hn (.inr hj))))
                replace R4 := Lib.hid R4
                clear T3 o3 S4 F4 F3 ST hso y0 y1 y2 y3 y4
                go_wp2_with fail
                refine (samen_to true o o n n A3 A4 c3 c4 w4 hn.out hn.out R3.out R4.out (by omega) (by omega) (by simp)).mono ?_
                rintro e w5 ⟨rfl, st⟩
                have M5 := Lib.hid (M4.out.below st.below)
                clear M4 R3 R4 st
                go_wp2_with fail
                go_meet
                exact Lib.hid ⟨_, M5.out⟩
              · have e2 : (d == 2) = false := beq_eq_false_iff_ne.2 h2
                replace h2 := Lib.hid h2
                have HF : Hid (CMid w (P0 w bx) wa p q bx #[.int .i64 d, .int .i64 u, .int .u64 (y : Int), .slice AC nc ca, .slice AT nt cb] (k + 1) s) := Lib.hid MA.out.next
                clear ST MD
                go_wp2_with fail
                go_meet
                exact Lib.hid ⟨_, HF.out⟩
        case rest =>
          obtain ⟨s', HM0⟩ := hcut.out
          have HM := Lib.hid HM0
          clear MA HM0 hcut y0 y1 y2 y3 y4
          obtain ⟨FR, hFR⟩ : ∃ x, cfree s'.l = x := ⟨_, rfl⟩
          obtain ⟨tk, htk⟩ : ∃ x, ctok s'.l T = x := ⟨_, rfl⟩
          obtain ⟨r, ST⟩ := HM.out.st
          have e1 : ((FR : Int) != (FR : Int)) = false := by simp
          have e2 : (tk != tk) = false := by simp
          have hFb : FR ≤ 8 := by have := ST.few; omega
          have hFRw : IntKind.i64.wrap (FR : Int) = (FR : Int) := by rw [IntKind.wrap_i64]; omega
          have bd := HM.out.drewB
          have KS := Lib.hid HM.out.keep
          have RT := Lib.hid (HM.out.keepR rt0.out)
          have C1 := Lib.hid ST.keepS
          replace hFR := Lib.hid hFR
          replace htk := Lib.hid htk
          clear ST
          go_upto_region 28 with fail
          refine wp_region_held_drew (S := fun W => W.cell? ⟨bx, 4, none⟩ = some (.slice AT nt cb)) (by kernel_rfl) (KS.out _ bd) (fun hHeld => ?_)
          refine wpAnyH_take (i := 0) (v := ?_) rfl (by kernel_rfl) (by kernel_rfl) (by kernel_rfl) (fun _ _ _ h => h) (Or.inl ⟨by rfl, ?_⟩) (by assumption) ?_
          rotate_left 1
          · (intro w hSw; (try dsimp only at hSw); (try go_split_ands); go_simp; try with_reducible rfl)
          try simp only [Act.put, List.setIfInBounds_toArray, List.set_cons_zero, List.set_cons_succ, List.getElem_toArray, List.getElem_cons_zero, List.getElem_cons_succ]
          refine wpAnyH_take (i := 2) (v := ?_) rfl (by kernel_rfl) (by kernel_rfl) (by kernel_rfl) (fun _ _ _ h => h) (Or.inl ⟨by rfl, ?_⟩) (by assumption) ?_
          rotate_left 1
          · (intro w hSw; (try dsimp only at hSw); (try go_split_ands); go_simp; try with_reducible rfl)
          try simp only [Act.put, List.setIfInBounds_toArray, List.set_cons_zero, List.set_cons_succ, List.getElem_toArray, List.getElem_cons_zero, List.getElem_cons_succ]
          refine wpAnyH_ready (rs := [1]) (by kernel_rfl) (by simp) ?_
          refine AllReadyH.cons rfl (fun K hK => ?_) AllReadyH.nil
          go_simp; go_at_call 12; refine (free_t1 FR (C1.out _ bd) hFR.out).mono ?_; rintro e v1 ⟨rfl, b1⟩; have b1' := bd.trans b1
          refine hK.out _ _ (KS.out _ b1') (fun hHeld => ?_)
          clear hK K
          try simp only [Act.put, List.setIfInBounds_toArray, List.set_cons_zero, List.set_cons_succ, List.getElem_toArray, List.getElem_cons_zero, List.getElem_cons_succ]
          refine wpAnyH_ready (rs := [3]) (by kernel_rfl) (by simp) ?_
          refine AllReadyH.cons rfl (fun K hK => ?_) AllReadyH.nil
          go_simp; go_at_call 22; refine (free_t2 FR (C1.out _ b1') hFR.out).mono ?_; rintro e v2 ⟨rfl, hv2⟩; subst hv2
          refine hK.out _ _ (KS.out _ b1') (fun hHeld => ?_)
          clear hK K
          try simp only [Act.put, List.setIfInBounds_toArray, List.set_cons_zero, List.set_cons_succ, List.getElem_toArray, List.getElem_cons_zero, List.getElem_cons_succ]
          refine wpAnyH_take (i := 4) (v := ?_) rfl (by kernel_rfl) (by kernel_rfl) (by kernel_rfl) (fun _ _ _ h => h) (Or.inl ⟨by rfl, ?_⟩) (by assumption) ?_
          rotate_left 1
          · (intro w hSw; (try dsimp only at hSw); (try go_split_ands); go_simp; try with_reducible rfl)
          try simp only [Act.put, List.setIfInBounds_toArray, List.set_cons_zero, List.set_cons_succ, List.getElem_toArray, List.getElem_cons_zero, List.getElem_cons_succ]
          refine wpAnyH_take (i := 5) (v := ?_) rfl (by kernel_rfl) (by kernel_rfl) (by kernel_rfl) (fun _ _ _ h => h) (Or.inl ⟨by rfl, ?_⟩) (by assumption) ?_
          rotate_left 1
          · (intro w hSw; (try dsimp only at hSw); (try go_split_ands); go_simp; try with_reducible rfl)
          try simp only [Act.put, List.setIfInBounds_toArray, List.set_cons_zero, List.set_cons_succ, List.getElem_toArray, List.getElem_cons_zero, List.getElem_cons_succ]
          refine wpAnyH_take (i := 6) (v := ?_) rfl (by kernel_rfl) (by kernel_rfl) (by kernel_rfl) (fun _ _ _ h => h) (Or.inl ⟨by rfl, ?_⟩) (by assumption) ?_
          rotate_left 1
          · (intro w hSw; (try dsimp only at hSw); (try go_split_ands); go_simp; try with_reducible rfl)
          try simp only [Act.put, List.setIfInBounds_toArray, List.set_cons_zero, List.set_cons_succ, List.getElem_toArray, List.getElem_cons_zero, List.getElem_cons_succ]
          refine wpAnyH_take (i := 7) (v := ?_) rfl (by kernel_rfl) (by kernel_rfl) (by kernel_rfl) (fun _ _ _ h => h) (Or.inl ⟨by rfl, ?_⟩) (by assumption) ?_
          rotate_left 1
          · (intro w hSw; (try dsimp only at hSw); (try go_split_ands); go_simp; try with_reducible rfl)
          try simp only [Act.put, List.setIfInBounds_toArray, List.set_cons_zero, List.set_cons_succ, List.getElem_toArray, List.getElem_cons_zero, List.getElem_cons_succ]
          refine wpAnyH_take (i := 8) (v := ?_) rfl (by kernel_rfl) (by kernel_rfl) (by kernel_rfl) (fun _ _ _ h => h) (Or.inl ⟨by rfl, ?_⟩) (by assumption) ?_
          rotate_left 1
          · (intro w hSw; (try dsimp only at hSw); (try go_split_ands); go_simp; try with_reducible rfl)
          try simp only [Act.put, List.setIfInBounds_toArray, List.set_cons_zero, List.set_cons_succ, List.getElem_toArray, List.getElem_cons_zero, List.getElem_cons_succ]
          refine wpAnyH_take (i := 10) (v := ?_) rfl (by kernel_rfl) (by kernel_rfl) (by kernel_rfl) (fun _ _ _ h => h) (Or.inl ⟨by rfl, ?_⟩) (by assumption) ?_
          rotate_left 1
          · (intro w hSw; (try dsimp only at hSw); (try go_split_ands); go_simp; try with_reducible rfl)
          try simp only [Act.put, List.setIfInBounds_toArray, List.set_cons_zero, List.set_cons_succ, List.getElem_toArray, List.getElem_cons_zero, List.getElem_cons_succ]
          refine wpAnyH_take (i := 11) (v := ?_) rfl (by kernel_rfl) (by kernel_rfl) (by kernel_rfl) (fun _ _ _ h => h) (Or.inl ⟨by rfl, ?_⟩) (by assumption) ?_
          rotate_left 1
          · (intro w hSw; (try dsimp only at hSw); (try go_split_ands); go_simp; try with_reducible rfl)
          try simp only [Act.put, List.setIfInBounds_toArray, List.set_cons_zero, List.set_cons_succ, List.getElem_toArray, List.getElem_cons_zero, List.getElem_cons_succ]
          refine wpAnyH_take (i := 12) (v := ?_) rfl (by kernel_rfl) (by kernel_rfl) (by kernel_rfl) (fun _ _ _ h => h) (Or.inl ⟨by rfl, ?_⟩) (by assumption) ?_
          rotate_left 1
          · (intro w hSw; (try dsimp only at hSw); (try go_split_ands); go_simp; try with_reducible rfl)
          try simp only [Act.put, List.setIfInBounds_toArray, List.set_cons_zero, List.set_cons_succ, List.getElem_toArray, List.getElem_cons_zero, List.getElem_cons_succ]
          refine wpAnyH_ready (rs := [9]) (by kernel_rfl) (by simp) ?_
          refine AllReadyH.cons rfl (fun K hK => ?_) AllReadyH.nil
          go_simp; go_at_call 23; refine (tok_t1 tk (C1.out _ b1') T AT nt cb hnt.out (RT.out _ b1') htk.out).mono ?_; rintro e v3 ⟨rfl, b3⟩; have b3' := b1'.trans (b3.mono b1'.size)
          refine hK.out _ _ (KS.out _ b3') (fun hHeld => ?_)
          clear hK K
          try simp only [Act.put, List.setIfInBounds_toArray, List.set_cons_zero, List.set_cons_succ, List.getElem_toArray, List.getElem_cons_zero, List.getElem_cons_succ]
          refine wpAnyH_ready (rs := [13]) (by kernel_rfl) (by simp) ?_
          refine AllReadyH.cons rfl (fun K hK => ?_) AllReadyH.nil
          go_simp; go_at_call 24; refine (tok_t2 tk (C1.out _ b3') T AT nt cb hnt.out (RT.out _ b3') htk.out).mono ?_; rintro e v4 ⟨rfl, b4⟩; have b4' := b3'.trans (b4.mono b3'.size)
          refine hK.out _ _ (KS.out _ b4') (fun hHeld => ?_)
          clear hK K
          try simp only [Act.put, List.setIfInBounds_toArray, List.set_cons_zero, List.set_cons_succ, List.getElem_toArray, List.getElem_cons_zero, List.getElem_cons_succ]
          refine wpAnyH_take (i := 14) (v := ?_) rfl (by kernel_rfl) (by kernel_rfl) (by kernel_rfl) (fun _ _ _ h => h) (Or.inl ⟨by rfl, ?_⟩) (by assumption) ?_
          rotate_left 1
          · (intro w hSw; (try dsimp only at hSw); (try go_split_ands); go_simp; try with_reducible rfl)
          try simp only [Act.put, List.setIfInBounds_toArray, List.set_cons_zero, List.set_cons_succ, List.getElem_toArray, List.getElem_cons_zero, List.getElem_cons_succ]
          refine wpAnyH_take (i := 15) (v := ?_) rfl (by kernel_rfl) (by kernel_rfl) (by kernel_rfl) (fun _ _ _ h => h) (Or.inl ⟨by rfl, ?_⟩) (by assumption) ?_
          rotate_left 1
          · (intro w hSw; (try dsimp only at hSw); (try go_split_ands); go_simp; try with_reducible rfl)
          try simp only [Act.put, List.setIfInBounds_toArray, List.set_cons_zero, List.set_cons_succ, List.getElem_toArray, List.getElem_cons_zero, List.getElem_cons_succ]

          refine wpAnyH_done (by kernel_rfl) ?_ _
          clear hHeld
          have HS2 : Hid ((∃ r, CdSt (fun k => k < w.heap.size) v4 p q s' r (k + 1)) ∧ Below w.heap.size w v4) := Lib.hid (by
            have h := HM.out.below b4'
            exact ⟨⟨_, (C1.out _ b4').narrow (fun _ h => .inl h)⟩, h.bel⟩)
          clear KS RT C1 bd b1 b1' b3 b3' b4 b4' HM
          go_wp2_with fail
          go_roundw
          case rel => exact ⟨k + 1, s', by omega, by go_num, HS2⟩
          case measure => simp [intOf]; omega
    · have hb := Lib.hid HS.out.2
      clear HS
      go_wp2_with fail
      refine (awake_any wr).mono ?_
      rintro e w5 ⟨rfl, b5⟩
      go_wp2_with fail
      go_ret
      exact ⟨rfl, hb.out.trans (b5.mono hb.out.size)⟩
end Go.Proofs.Ytgmanhbfdjlhbaa
