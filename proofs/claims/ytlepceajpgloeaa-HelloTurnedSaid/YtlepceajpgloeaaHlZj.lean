/- HelloTurned answers true at every input. -/
import Derived.Test.YtlepceajpgloeaaHlZi
namespace Go.Proofs.Ytlepceajpgloeaa
open Go.RowKit

set_option maxRecDepth 100000 in
set_option maxHeartbeats 8000000 in
theorem hturned_any (many at_ by_ : Int) (sv fin : Bool) (r : List UInt8) (w : World) (hr : r.length = 32) (hby : 0 ≤ by_ ∧ by_ ≤ 255) :
    Calls Try.prog 4 #[.bool sv, .int .i64 many, .agg (bv r).toArray, .bool fin, .int .i64 at_, .int .u8 by_] w fun e w' => e = .returned (.bool true) ∧ Below w.heap.size w w' := by
  obtain ⟨m1, hm1, L1⟩ := low_ex many 4 (by omega) (by omega)
  obtain ⟨u, hu⟩ : ∃ u : UInt8, (u.toNat : Int) = by_ := ⟨UInt8.ofNat by_.toNat, by rw [UInt8.toNat_ofNat']; omega⟩
  have HO : Hid (∀ W1, W1 = w.alloc (.cells (bv r).toArray 22) → W1.heap.size = w.heap.size + 1 ∧ W1.heap[w.heap.size]? = some (.cells (bv r).toArray 22 (0, 0)) ∧ Below w.heap.size w W1) := Lib.hid (fun W1 h => by
    subst h
    exact ⟨by simp, heap_alloc_new w _, (Below.refl _ w).alloc (Nat.le_refl _) _⟩)
  have hbr : (bv r).length = 32 := by rw [bv_length, hr]
  replace hr := Lib.hid hr
  replace hbr := Lib.hid hbr
  replace L1 := Lib.hid L1
  replace hu := Lib.hid hu
  obtain ⟨rA, hrA⟩ : ∃ rA, (bv r).toArray = rA := ⟨_, rfl⟩
  rw [hrA] at HO ⊢
  go_enter Try.func4, Try.ntmps4
  go_wp2_with fail
  have K0 := HO.out _ rfl
  obtain ⟨W1, hW1⟩ : ∃ W1, w.alloc (.cells rA 22) = W1 := ⟨_, rfl⟩
  rw [hW1] at K0 ⊢
  clear hW1 HO
  obtain ⟨s1, kr, BW⟩ := K0
  rw [← hrA] at kr
  replace s1 := Lib.hid s1
  replace kr := Lib.hid kr
  replace BW := Lib.hid BW
  replace hrA := Lib.hid hrA
  go_loopw [13, 14] (fun v i wr => ∃ (k c : Nat) (A : Option Addr), k ≤ m1 + 1 ∧ v = .slice A k c ∧ i = .int .i64 k ∧ Hid (Ids W1.heap.size wr A k c (gids 0 k) ∧ Below W1.heap.size W1 wr)) (fun _ i _ => m1 + 1 - (intOf i).toNat)
  case atStart => exact ⟨0, 0, none, by omega, rfl, rfl, Lib.hid ⟨Ids.nil _ _, Below.refl _ _⟩⟩
  case round =>
    obtain ⟨k, c, A, hk, rfl, rfl, HS⟩ := hrel
    by_cases hkm : k ≤ m1
    · rename_i aa; clear aa
      have d1 : decide ((k : Int) ≤ (m1 : Int)) = true := decide_eq_true (by omega)
      have d1' : decide (k ≤ m1) = true := decide_eq_true hkm
      have G1 : Hid (∀ W : World, Calls Try.prog 18 #[.int .i64 8, .int .i64 (k : Int)] W (RetS 5 W 8 (bv (growl 8 k)))) := Lib.hid (fun W => by
        exact grow_any 8 k W (by omega) (by omega))
      go_wp2_with fail
      refine (L1.out _).mono ?_
      rintro e w' ⟨rfl, rfl⟩
      go_wp2_with fail
      refine (G1.out _).mono ?_
      rintro e w2 ⟨A1, k1, rfl, oo, b2⟩
      have N2 := HS.out.1.below b2
      have BB2 := Lib.hid (HS.out.2.trans (b2.mono HS.out.2.size))
      have O2 := own_base (base2 := W1.heap.size) oo (fun q hq => Nat.le_trans HS.out.2.size (oo.lt q hq).1)
      obtain ⟨vs, hvs, hstep⟩ := (N2.below ((Below.refl _ w2).alloc (Nat.le_refl _) (.cells #[.slice A1 8 k1] 24))).row
      have hst := Lib.hid (fun w' A' c' => hstep w' A' c' A1 k1 (growl 8 k) (by rw [growl_length]; exact O2.alloc _))
      replace hvs := Lib.hid hvs
      clear oo b2 N2 O2 hstep
      go_wp2_with (at_builtin; refine Hid.out ?_)
      refine Lib.hid ?_
      refine wpList_app _ rfl _ _ 23 rfl W1.heap.size 24 (.slice none 0 0) 24 infoS Try.underlying23 rfl (.slice A k c) k vs rfl hvs.out (some ⟨w2.heap.size, 0, none⟩) 1 1 [.slice A1 8 k1] rfl rfl (Rd.fresh_mark w2 [.slice A1 8 k1] 24 (0, 0)) (one_sl _ _ _) (by unfold maxLen; omega) (by omega) (by have := BB2.out.size; simp; omega) ?_
      intro A3 c3 w3 o3 g3 _
      have I3 := hst.out w3 A3 c3 (by rw [growl_length]; exact o3) g3
      have B3 : Below W1.heap.size W1 w3 := Fr.under BB2.out BB2.out.size (((Fr.refl (fun q => (Value.slice A k c).ownBlock = some q) w2).alloc _).grown g3 (fun _ hq _ => hq)) (fun q hq _ => (hvs.out.lt q hq).1)
      rw [show gids 0 k ++ [growl 8 k] = gids 0 (k + 1) from (gids_succ 0 k).symm] at I3
      replace I3 := Lib.hid I3
      replace B3 := Lib.hid B3
      clear o3 g3 hst hvs
      go_wp2_with fail
      go_roundw
      case rel => exact ⟨k + 1, c3, A3, by omega, rfl, by go_num, Lib.hid ⟨I3.out, B3.out⟩⟩
      case measure => simp [intOf]; omega
    · have hk' : k = m1 + 1 := by omega
      have d1 : decide ((k : Int) ≤ (m1 : Int)) = false := decide_eq_false (by omega)
      have d1' : decide (k ≤ m1) = false := decide_eq_false hkm
      have hk4 : 1 ≤ k ∧ k ≤ 4 := by omega
      have hids8 := gids_8 0 k
      have hidl := gids_len 0 k
      obtain ⟨ids, hids⟩ : ∃ ids, gids 0 k = ids := ⟨_, rfl⟩
      rw [hids] at HS hids8 hidl
      obtain ⟨P, hP⟩ : ∃ P, hpiece (if sv then 2 else 1) (hbod r ids) = P := ⟨_, rfl⟩
      obtain ⟨L, hL⟩ : ∃ L, P.length = L := ⟨_, rfl⟩
      have hPl : L = 37 + 9 * k := by rw [← hL, ← hP, hpiece_length, hbod_length r ids hr.out hids8, hidl]; omega
      have PU := Lib.hid (fun W (h : RdR W A ids) => hput_any sv r ids A k c W hr.out hidl h (by omega))
      rw [hput_ok sv r ids hids8 (by omega) (by omega), hP] at PU
      unfold RetP at PU
      simp only [hL] at PU
      have hLb : 36 ≤ L ∧ L ≤ 73 := by omega
      have R0 : Hid (∀ w', Below W1.heap.size W1 w' → w'.rangeAt w.heap.size 0 (bv r)) := Lib.hid (fun w' b => by
        have := range_of_block (heap_fr kr.out (Fr.of_below b NoS) (fun x => x))
        exact this)
      have I0 := Lib.hid HS.out.1
      have B0 := Lib.hid HS.out.2
      replace hP := Lib.hid hP
      replace hL := Lib.hid hL
      replace hPl := Lib.hid hPl
      replace hids := Lib.hid hids
      replace hids8 := Lib.hid hids8
      replace hidl := Lib.hid hidl
      replace hk' := Lib.hid hk'
      clear HS hkm
      have rr0 := Lib.hid (R0.out wr B0.out)
      go_wp2_with fail
      refine (L1.out _).mono ?_
      rintro e w' ⟨rfl, rfl⟩
      go_wp2_with (first
        | (refine wpList_load_mid rfl 22 (.tmp 8) rfl w.heap.size 0 rfl (bv r) _ rr0.out Try.underlying22 rfl (by rw [hbr.out]; exact hinfo22) ?_)
        | (refine wpList_build rfl 27 #[(0, .tmp 30), (1, .tmp 31), (2, .tmp 32)] rfl (.agg (hcl sv r A k c)) #[(0, .bool sv), (1, .agg (bv r).toArray), (2, .slice A k c)] (by simp only [List.map_toArray, List.map_cons, List.map_nil]; rfl) (build27q sv r A k c hr.out _) ?_))
      refine (PU.out _ I0.out.rd).mono ?_
      rintro e w2 ⟨Ab, cb, rfl, ob, b2⟩
      have B2 := Lib.hid (B0.out.trans (b2.mono B0.out.size))
      have R2 := Lib.hid (Rd.of_own ob)
      have hcb := RetS.cap ob
      have rr2 := Lib.hid (R0.out w2 B2.out)
      clear ob b2 PU I0 B0 rr0 d1 d1'
      have hfin : fin = true ∨ fin = false := by cases fin <;> simp
      rcases hfin with rfl | rfl
      · go_wp2_with (refine wpList_load_mid rfl 22 (.tmp 8) rfl w.heap.size 0 rfl (bv r) _ rr2.out Try.underlying22 rfl (by rw [hbr.out]; exact hinfo22) ?_)
        obtain ⟨Lf, hLf⟩ : ∃ Lf : Nat, (36 : Nat) = Lf := ⟨_, rfl⟩
        have PF := putfin_any r w2 hr.out
        rw [hLf] at PF
        refine PF.mono ?_
        rintro e w3 ⟨Af, cf, rfl, of, b3⟩
        have B3 := Lib.hid (B2.out.trans (b3.mono B2.out.size))
        have R3 := Lib.hid (Rd.of_own of)
        have hcf := RetS.cap of
        have hPf : (hpiece 20 r).length = Lf := by rw [hpiece_length, hr.out]; exact hLf
        obtain ⟨Pf, hPfe⟩ : ∃ Pf, hpiece 20 r = Pf := ⟨_, rfl⟩
        rw [hPfe] at R3 hPf
        replace hPf := Lib.hid hPf
        replace hPfe := Lib.hid hPfe
        have hLfb : 36 ≤ Lf ∧ Lf ≤ 36 := by omega
        replace hLf := Lib.hid hLf
        clear of b3 B2 R2 rr2 hcb PF
        obtain ⟨a1, ha1, L2⟩ := low_ex at_ Lf (by omega) (by omega)
        have CP := copied_any Pf Af cf w3 R3.out (by rw [hPf.out]; omega)
        rw [hPf.out] at CP
        replace CP := Lib.hid CP
        replace L2 := Lib.hid L2
        have e1 : ((Lf : Int) == 0) = false := by rw [beq_eq_false_iff_ne]; omega
        go_wp2_with fail
        refine CP.out.mono ?_
        rintro e w4 ⟨A4, c4, rfl, o4, b4⟩
        have B4 := Lib.hid (B3.out.trans (b4.mono B3.out.size))
        have hws : Hid (W1.heap.size ≤ w3.heap.size) := Lib.hid B3.out.size
        have hc4 := RetS.cap o4
        have O4 := Lib.hid o4
        clear o4 b4 CP R3 e1
        go_wp2_with fail
        refine (L2.out _).mono ?_
        rintro e w' ⟨rfl, rfl⟩
        clear L2
        have CU := cut_h (P := Try.prog) Try.underlying24 infoB A4 Lf c4 a1 (by omega)
        have RA := reads_any (Pf.take a1) A4 a1 c4 w4 (by rw [List.length_take, hPf.out]; omega) ((Rd.of_own O4.out).take_bytes a1) (by omega) (by omega) hc4.2
        replace RA := Lib.hid RA
        go_wp2_with fail
        refine RA.out.mono ?_
        rintro e w5 ⟨rfl, b5⟩
        have O5 := own_fr O4.out (Fr.of_below b5 NoS) (fun _ _ x => x)
        have B5 := Lib.hid (B4.out.trans (b5.mono B4.out.size))
        obtain ⟨g, rfl⟩ : ∃ g, A4 = some ⟨g, 0, none⟩ := by
          rcases own_cases O5 with ⟨_, h2, _⟩ | ⟨g, h1, _⟩
          · omega
          · exact ⟨g, h1⟩
        have z0 := O5.cellAt a1 (by omega)
        rw [bv_get (k := a1) (by rw [hPf.out]; exact ha1)] at z0
        obtain ⟨y, hy⟩ : ∃ y : Int, ((Pf[a1]'(by rw [hPf.out]; exact ha1)).toNat : Int) = y := ⟨_, rfl⟩
        rw [hy] at z0
        have z1 := O5.frozenAt a1
        have hgb := (O5.lt g rfl).1
        have st := (O5.stored a1 (.int .u8 by_)).1
        have hset : (bv Pf).set a1 (.int .u8 by_) = bv (Pf.set a1 u) := by rw [bv, bv, List.map_set, hu.out]
        rw [hset] at st
        have HS6 : Hid (∀ W, W = w5.setCell ⟨g, a1, none⟩ (.int .u8 by_) → Rd W (some ⟨g, 0, none⟩) (bv (Pf.set a1 u)) ∧ Below W1.heap.size W1 W) := Lib.hid (by
          rintro W rfl
          refine ⟨Rd.of_own st, Fr.under B5.out B5.out.size ((Fr.refl (fun x => x = g) w5).setCell (p := ⟨g, a1, none⟩) (fun _ => rfl) _) (fun x hx _ => by have := hws.out; omega)⟩)
        have ha1I : (a1 : Int) < (Lf : Int) := by omega
        have hlen6 : Hid ((Pf.set a1 u).length = Lf) := Lib.hid (by rw [List.length_set, hPf.out])
        replace hy := Lib.hid hy
        clear O4 O5 B4 RA b5 st hset CU hgb
        go_wp2_with fail
        obtain ⟨W6, hW6⟩ : ∃ W6, w5.setCell ⟨g, a1, none⟩ (.int .u8 by_) = W6 := ⟨_, rfl⟩
        rw [hW6] at ⊢
        obtain ⟨R6, B6⟩ := HS6.out W6 hW6.symm
        replace hW6 := Lib.hid hW6
        have RB := Lib.hid (reads_any (Pf.set a1 u) (some ⟨g, 0, none⟩) Lf c4 W6 hlen6.out R6 (by omega) hc4.1 hc4.2)
        replace B6 := Lib.hid B6
        clear R6 HS6 z0 z1 B5
        refine RB.out.mono ?_
        rintro e w7 ⟨rfl, b7⟩
        have B7 := Lib.hid (B6.out.trans (b7.mono B6.out.size))
        clear b7 RB B6
        go_wp2_with fail
        refine (awake_any _).mono ?_
        rintro e w8 ⟨rfl, b8⟩
        have B8 := Lib.hid (B7.out.trans (b8.mono B7.out.size))
        clear b8
        go_wp2_with fail
        go_ret
        exact ⟨rfl, BW.out.trans (B8.out.mono BW.out.size)⟩
      · clear rr2
        obtain ⟨a1, ha1, L2⟩ := low_ex at_ L (by omega) (by omega)
        have CP := copied_any P Ab cb w2 R2.out (by rw [hL.out]; omega)
        rw [hL.out] at CP
        replace CP := Lib.hid CP
        replace L2 := Lib.hid L2
        have e1 : ((L : Int) == 0) = false := by rw [beq_eq_false_iff_ne]; omega
        go_wp2_with fail
        refine CP.out.mono ?_
        rintro e w4 ⟨A4, c4, rfl, o4, b4⟩
        have B4 := Lib.hid (B2.out.trans (b4.mono B2.out.size))
        have hws : Hid (W1.heap.size ≤ w2.heap.size) := Lib.hid B2.out.size
        have hc4 := RetS.cap o4
        have O4 := Lib.hid o4
        clear o4 b4 CP R2 e1
        go_wp2_with fail
        refine (L2.out _).mono ?_
        rintro e w' ⟨rfl, rfl⟩
        clear L2
        have CU := cut_h (P := Try.prog) Try.underlying24 infoB A4 L c4 a1 (by omega)
        have RA := reads_any (P.take a1) A4 a1 c4 w4 (by rw [List.length_take, hL.out]; omega) ((Rd.of_own O4.out).take_bytes a1) (by omega) (by omega) hc4.2
        replace RA := Lib.hid RA
        go_wp2_with fail
        refine RA.out.mono ?_
        rintro e w5 ⟨rfl, b5⟩
        have O5 := own_fr O4.out (Fr.of_below b5 NoS) (fun _ _ x => x)
        have B5 := Lib.hid (B4.out.trans (b5.mono B4.out.size))
        obtain ⟨g, rfl⟩ : ∃ g, A4 = some ⟨g, 0, none⟩ := by
          rcases own_cases O5 with ⟨_, h2, _⟩ | ⟨g, h1, _⟩
          · omega
          · exact ⟨g, h1⟩
        have z0 := O5.cellAt a1 (by omega)
        rw [bv_get (k := a1) (by rw [hL.out]; exact ha1)] at z0
        obtain ⟨y, hy⟩ : ∃ y : Int, ((P[a1]'(by rw [hL.out]; exact ha1)).toNat : Int) = y := ⟨_, rfl⟩
        rw [hy] at z0
        have z1 := O5.frozenAt a1
        have hgb := (O5.lt g rfl).1
        have st := (O5.stored a1 (.int .u8 by_)).1
        have hset : (bv P).set a1 (.int .u8 by_) = bv (P.set a1 u) := by rw [bv, bv, List.map_set, hu.out]
        rw [hset] at st
        have HS6 : Hid (∀ W, W = w5.setCell ⟨g, a1, none⟩ (.int .u8 by_) → Rd W (some ⟨g, 0, none⟩) (bv (P.set a1 u)) ∧ Below W1.heap.size W1 W) := Lib.hid (by
          rintro W rfl
          refine ⟨Rd.of_own st, Fr.under B5.out B5.out.size ((Fr.refl (fun x => x = g) w5).setCell (p := ⟨g, a1, none⟩) (fun _ => rfl) _) (fun x hx _ => by have := hws.out; omega)⟩)
        have ha1I : (a1 : Int) < (L : Int) := by omega
        have hlen6 : Hid ((P.set a1 u).length = L) := Lib.hid (by rw [List.length_set, hL.out])
        replace hy := Lib.hid hy
        clear O4 O5 B4 RA b5 st hset CU hgb
        go_wp2_with fail
        obtain ⟨W6, hW6⟩ : ∃ W6, w5.setCell ⟨g, a1, none⟩ (.int .u8 by_) = W6 := ⟨_, rfl⟩
        rw [hW6] at ⊢
        obtain ⟨R6, B6⟩ := HS6.out W6 hW6.symm
        replace hW6 := Lib.hid hW6
        have RB := Lib.hid (reads_any (P.set a1 u) (some ⟨g, 0, none⟩) L c4 W6 hlen6.out R6 (by omega) hc4.1 hc4.2)
        replace B6 := Lib.hid B6
        clear R6 HS6 z0 z1 B5
        refine RB.out.mono ?_
        rintro e w7 ⟨rfl, b7⟩
        have B7 := Lib.hid (B6.out.trans (b7.mono B6.out.size))
        clear b7 RB B6
        go_wp2_with fail
        refine (awake_any _).mono ?_
        rintro e w8 ⟨rfl, b8⟩
        have B8 := Lib.hid (B7.out.trans (b8.mono B7.out.size))
        clear b8
        go_wp2_with fail
        go_ret
        exact ⟨rfl, BW.out.trans (B8.out.mono BW.out.size)⟩
end Go.Proofs.Ytlepceajpgloeaa
