/- HelloRows answers true at every input. -/
import Derived.Test.YtlepceajpgloeaaHlU
namespace Go.Proofs.Ytlepceajpgloeaa
open Go.RowKit

set_option maxRecDepth 100000 in
set_option maxHeartbeats 8000000 in
theorem hrows_any (many out : Int) (sv : Bool) (r : List UInt8) (w : World) (hr : r.length = 32) :
    Calls Try.prog 5 #[.int .i64 many, .bool sv, .agg (bv r).toArray, .int .i64 out] w fun e w' => e = .returned (.bool true) ∧ Below w.heap.size w w' := by
  obtain ⟨m1, hm1, L1⟩ := low_ex many 4 (by omega) (by omega)
  obtain ⟨L, hL⟩ : ∃ L, 37 + 9 * (m1 + 1) = L := ⟨_, rfl⟩
  have hLb : L ≤ 73 ∧ 46 ≤ L := by omega
  obtain ⟨L4, hL4⟩ : ∃ L4, L - 4 = L4 := ⟨_, rfl⟩
  have hL4I : (L : Int) - 4 = (L4 : Int) := by omega
  obtain ⟨o1, ho1, LO⟩ := low_ex out L4 (by omega) (by omega)
  obtain ⟨O, hO⟩ : ∃ O, 1 + o1 = O := ⟨_, rfl⟩
  have hOI : (1 : Int) + (o1 : Int) = (O : Int) := by omega
  obtain ⟨J, hJ⟩ : ∃ J, L - O = J := ⟨_, rfl⟩
  have hJI : (L : Int) - (O : Int) = (J : Int) := by omega
  have hJb : 4 ≤ J ∧ J < L := by omega
  have HO : Hid (∀ W1, W1 = w.alloc (.cells (bv r).toArray 22) → W1.heap.size = w.heap.size + 1 ∧ W1.heap[w.heap.size]? = some (.cells (bv r).toArray 22 (0, 0)) ∧ Below w.heap.size w W1) := Lib.hid (fun W1 h => by
    subst h
    exact ⟨by simp, heap_alloc_new w _, (Below.refl _ w).alloc (Nat.le_refl _) _⟩)
  have HN := fun w => neq22 r r hr hr w
  rw [decide_eq_true (rfl : r = r)] at HN
  have hsb : (sv != sv) = false := by simp
  have hbr : (bv r).length = 32 := by rw [bv_length, hr]
  replace hr := Lib.hid hr
  replace hbr := Lib.hid hbr
  replace L1 := Lib.hid L1
  replace LO := Lib.hid LO
  replace HN := Lib.hid HN
  replace hL := Lib.hid hL
  replace hL4 := Lib.hid hL4
  replace hO := Lib.hid hO
  replace hJ := Lib.hid hJ
  replace hL4I := Lib.hid hL4I
  replace hOI := Lib.hid hOI
  replace hJI := Lib.hid hJI
  replace hsb := Lib.hid hsb
  obtain ⟨rA, hrA⟩ : ∃ rA, (bv r).toArray = rA := ⟨_, rfl⟩
  rw [hrA] at HO ⊢
  go_enter Try.func5, Try.ntmps5
  go_wp2_with fail
  have K0 := HO.out _ rfl
  obtain ⟨W1, hW1⟩ : ∃ W1, w.alloc (.cells rA 22) = W1 := ⟨_, rfl⟩
  rw [hW1] at K0 ⊢
  clear hW1 HO
  obtain ⟨s1, kr, BW⟩ := K0
  rw [← hrA] at kr
  replace s1 := Lib.hid s1
  replace kr := Lib.hid kr
  replace BW := Lib.hid BW
  replace hrA := Lib.hid hrA
  go_loopw [9, 10] (fun v i wr => ∃ (k c : Nat) (A : Option Addr), k ≤ m1 + 1 ∧ v = .slice A k c ∧ i = .int .i64 k ∧ Hid (Ids W1.heap.size wr A k c (gids 3 k) ∧ Below W1.heap.size W1 wr)) (fun _ i _ => m1 + 1 - (intOf i).toNat)
  case atStart => exact ⟨0, 0, none, by omega, rfl, rfl, Lib.hid ⟨Ids.nil _ _, Below.refl _ _⟩⟩
  case round =>
    obtain ⟨k, c, A, hk, rfl, rfl, HS⟩ := hrel
    by_cases hkm : k ≤ m1
    · rename_i aa; clear aa
      have d1 : decide ((k : Int) ≤ (m1 : Int)) = true := decide_eq_true (by omega)
      have d1' : decide (k ≤ m1) = true := decide_eq_true hkm
      have G1 : Hid (∀ W : World, Calls Try.prog 18 #[.int .i64 8, .int .i64 ((k : Int) + 3)] W (RetS 5 W 8 (bv (growl 8 (k + 3))))) := Lib.hid (fun W => by
        have := grow_any 8 (k + 3) W (by omega) (by omega)
        rw [show ((k + 3 : Nat) : Int) = (k : Int) + 3 by omega] at this
        exact this)
      go_wp2_with fail
      refine (L1.out _).mono ?_
      rintro e w' ⟨rfl, rfl⟩
      go_wp2_with fail
      refine (G1.out _).mono ?_
      rintro e w2 ⟨A1, k1, rfl, oo, b2⟩
      have N2 := HS.out.1.below b2
      have BB2 := Lib.hid (HS.out.2.trans (b2.mono HS.out.2.size))
      have O2 := own_base (base2 := W1.heap.size) oo (fun q hq => Nat.le_trans HS.out.2.size (oo.lt q hq).1)
      obtain ⟨vs, hvs, hstep⟩ := (N2.below ((Below.refl _ w2).alloc (Nat.le_refl _) (.cells #[.slice A1 8 k1] 24))).row
      have hst := Lib.hid (fun w' A' c' => hstep w' A' c' A1 k1 (growl 8 (k + 3)) (by rw [growl_length]; exact O2.alloc _))
      replace hvs := Lib.hid hvs
      clear oo b2 N2 O2 hstep
      go_wp2_with (at_builtin; refine Hid.out ?_)
      refine Lib.hid ?_
      refine wpList_app _ rfl _ _ 23 rfl W1.heap.size 24 (.slice none 0 0) 24 infoS Try.underlying23 rfl (.slice A k c) k vs rfl hvs.out (some ⟨w2.heap.size, 0, none⟩) 1 1 [.slice A1 8 k1] rfl rfl (Rd.fresh_mark w2 [.slice A1 8 k1] 24 (0, 0)) (one_sl _ _ _) (by unfold maxLen; omega) (by omega) (by have := BB2.out.size; simp; omega) ?_
      intro A3 c3 w3 o3 g3 _
      have I3 := hst.out w3 A3 c3 (by rw [growl_length]; exact o3) g3
      have B3 : Below W1.heap.size W1 w3 := Fr.under BB2.out BB2.out.size (((Fr.refl (fun q => (Value.slice A k c).ownBlock = some q) w2).alloc _).grown g3 (fun _ hq _ => hq)) (fun q hq _ => (hvs.out.lt q hq).1)
      rw [← gids_succ] at I3
      replace I3 := Lib.hid I3
      replace B3 := Lib.hid B3
      clear o3 g3 hst hvs
      go_wp2_with fail
      go_roundw
      case rel => exact ⟨k + 1, c3, A3, by omega, rfl, by go_num, Lib.hid ⟨I3.out, B3.out⟩⟩
      case measure => simp [intOf]; omega
    · have hk' : k = m1 + 1 := by omega
      have d1 : decide ((k : Int) ≤ (m1 : Int)) = false := decide_eq_false (by omega)
      have d1' : decide (k ≤ m1) = false := decide_eq_false hkm
      have hk4 : 1 ≤ k ∧ k ≤ 4 := by omega
      have hids8 := gids_8 3 k
      have hidl := gids_len 3 k
      obtain ⟨ids, hids⟩ : ∃ ids, gids 3 k = ids := ⟨_, rfl⟩
      rw [hids] at HS hids8 hidl
      obtain ⟨P, hP⟩ : ∃ P, hpiece (if sv then 2 else 1) (hbod r ids) = P := ⟨_, rfl⟩
      have hPl : P.length = L := by rw [← hP, hpiece_length, hbod_length r ids hr.out hids8, hidl]; have := hL.out; omega
      have PU := Lib.hid (fun W (h : RdR W A ids) => hput_any sv r ids A k c W hr.out hidl h (by omega))
      rw [hput_ok sv r ids hids8 (by omega) (by omega), hP] at PU
      unfold RetP at PU
      simp only [hPl] at PU
      obtain ⟨Q, hQ⟩ : ∃ Q, hpiece 20 r ++ P = Q := ⟨_, rfl⟩
      have q1 := hget_piece sv r ids Q hr.out hids8 (by omega) (by omega)
      rw [hP, hidl] at q1
      have hL9 : ((37 + 9 * k : Nat) : Int) = (L : Int) := by have := hL.out; omega
      rw [hL9] at q1
      have q3 := hfinr_piece r P hr.out
      rw [hQ] at q3
      have q4 := hget_cut sv r ids hr.out hids8 (by omega) J (by have := hL.out; omega)
      rw [hP] at q4
      have hbl := hbod_length r ids hr.out hids8
      obtain ⟨kv, hkv, q5⟩ : ∃ kv : Int, ((sv = true ∧ kv = 2) ∨ (sv = false ∧ kv = 1)) ∧ hkind (P.take J) = (kv, (L : Int), 0) := by
        rw [← hP]
        have e : ((4 + (hbod r ids).length : Nat) : Int) = (L : Int) := by rw [hbl, hidl]; have := hL.out; omega
        cases sv
        · exact ⟨1, .inr ⟨rfl, rfl⟩, by simp only [Bool.false_eq_true, if_false]; rw [hkind_cut _ _ (.inl rfl) (by omega) J hJb.1, e]; rfl⟩
        · exact ⟨2, .inl ⟨rfl, rfl⟩, by simp only [if_true]; rw [hkind_cut _ _ (.inr (.inl rfl)) (by omega) J hJb.1, e]; rfl⟩
      have hQl : Q.length = 36 + L := by rw [← hQ, List.length_append, hpiece_length, hr.out, hPl]
      have R0 : Hid (∀ w', Below W1.heap.size W1 w' → w'.rangeAt w.heap.size 0 (bv r)) := Lib.hid (fun w' b => by
        have := range_of_block (heap_fr kr.out (Fr.of_below b NoS) (fun x => x))
        exact this)
      have I0 := Lib.hid HS.out.1
      have B0 := Lib.hid HS.out.2
      have hs0 : W1.heap.size ≤ wr.heap.size := HS.out.2.size
      replace q1 := Lib.hid q1
      replace q3 := Lib.hid q3
      replace q4 := Lib.hid q4
      replace q5 := Lib.hid q5
      replace hkv := Lib.hid hkv
      replace hP := Lib.hid hP
      replace hPl := Lib.hid hPl
      replace hQ := Lib.hid hQ
      replace hQl := Lib.hid hQl
      replace hids := Lib.hid hids
      replace hids8 := Lib.hid hids8
      replace hidl := Lib.hid hidl
      replace hL9 := Lib.hid hL9
      replace hbl := Lib.hid hbl
      replace hk' := Lib.hid hk'
      clear HS hkm
      have rr0 := Lib.hid (R0.out wr B0.out)
      go_wp2_with fail
      refine (L1.out _).mono ?_
      rintro e w' ⟨rfl, rfl⟩
      go_wp2_with (first
        | (refine wpList_load_mid rfl 22 (.tmp 6) rfl w.heap.size 0 rfl (bv r) _ rr0.out Try.underlying22 rfl (by rw [hbr.out]; exact hinfo22) ?_)
        | (refine wpList_build rfl 27 #[(0, .tmp 41), (1, .tmp 42), (2, .tmp 43)] rfl (.agg (hcl sv r A k c)) #[(0, .bool sv), (1, .agg (bv r).toArray), (2, .slice A k c)] (by simp only [List.map_toArray, List.map_cons, List.map_nil]; rfl) (build27q sv r A k c hr.out _) ?_))
      refine (PU.out _ I0.out.rd).mono ?_
      rintro e w2 ⟨Ab, cb, rfl, ob, b2⟩
      have I2 := Lib.hid (I0.out.below b2)
      have B2 := Lib.hid (B0.out.trans (b2.mono B0.out.size))
      have R2 := Lib.hid (Rd.of_own ob)
      have hcb := RetS.cap ob
      have rr2 := Lib.hid (R0.out w2 B2.out)
      clear ob b2 PU I0 B0 rr0 d1 d1'
      go_wp2_with (refine wpList_load_mid rfl 22 (.tmp 6) rfl w.heap.size 0 rfl (bv r) _ rr2.out Try.underlying22 rfl (by rw [hbr.out]; exact hinfo22) ?_)
      refine (putfin_any r w2 hr.out).mono ?_
      rintro e w3 ⟨Af, cf, rfl, of, b3⟩
      have I3 := Lib.hid (I2.out.below b3)
      have B3 := Lib.hid (B2.out.trans (b3.mono B2.out.size))
      have R3 := Lib.hid (R2.out.below b3)
      have RF3 := Lib.hid (Rd.of_own of)
      clear of b3 I2 B2 R2 rr2
      have CP := copied_any P Ab cb w3 R3.out (by rw [hPl.out]; omega)
      rw [hPl.out] at CP
      replace CP := Lib.hid CP
      go_wp2_with fail
      refine CP.out.mono ?_
      rintro e w4 ⟨A4, c4, rfl, o4, b4⟩
      have RF4 := Lib.hid (RF3.out.below b4)
      have R4 := Lib.hid (R3.out.below b4)
      replace o4 := Lib.hid o4
      replace b4 := Lib.hid b4
      clear CP RF3
      go_wp2_with (at_builtin; refine Hid.out ?_)
      refine Lib.hid ?_
      refine wpList_app _ rfl _ _ 24 rfl w3.heap.size 5 (.int .u8 0) 1 infoB Try.underlying24 rfl (.slice A4 L c4) L (bv P) rfl o4.out Af 36 cf (bv (hpiece 20 r)) rfl (by rw [bv_length, hpiece_length, hr.out]) RF4.out (bv_one _) (by unfold maxLen; omega) (by omega) b4.out.size ?_
      intro A5 c5 w5 o5 g5 _
      have b5 := Fr.under b4.out b4.out.size ((Fr.refl (fun q => (Value.slice A4 L c4).ownBlock = some q) w4).grown g5 (fun _ hq _ => hq)) (fun q hq _ => (o4.out.lt q hq).1)
      rw [← bv_append] at o5
      have R5 := Lib.hid (R3.out.below b5)
      replace o5 := Lib.hid o5
      replace b5 := Lib.hid b5
      clear g5 o4 b4 RF4 R4
      go_wp2_with (at_builtin; refine Hid.out ?_)
      refine Lib.hid ?_
      refine wpList_app _ rfl _ _ 24 rfl w3.heap.size 5 (.int .u8 0) 1 infoB Try.underlying24 rfl (.slice A5 (L + 36) c5) (L + 36) (bv (P ++ hpiece 20 r)) rfl o5.out Ab L cb (bv P) rfl (by rw [bv_length, hPl.out]) R5.out (bv_one _) (by unfold maxLen; omega) (by omega) b5.out.size ?_
      intro AX cX w6 o6 g6 _
      have b6 := Fr.under b5.out b5.out.size ((Fr.refl (fun q => (Value.slice A5 (L + 36) c5).ownBlock = some q) w5).grown g6 (fun _ hq _ => hq)) (fun q hq _ => (o5.out.lt q hq).1)
      rw [← bv_append, List.append_assoc, hQ.out] at o6
      obtain ⟨T, hT⟩ : ∃ T, L + 36 + L = T := ⟨_, rfl⟩
      rw [hT] at o6 ⊢
      have I6 := Lib.hid (I3.out.below b6)
      have B6 := Lib.hid (B3.out.trans (b6.mono B3.out.size))
      have R6 := Lib.hid (Rd.of_own o6)
      have P6 := Lib.hid (R3.out.below b6)
      have hcX := RetS.cap o6
      have hTb : L ≤ T ∧ T ≤ 200 := by omega
      have hTl : Hid ((P ++ Q).length = T) := Lib.hid (by rw [List.length_append, hPl.out, hQl.out]; omega)
      replace hT := Lib.hid hT
      clear g6 o6 b6 o5 b5 I3 B3 R3 R5
      have G1 := hget_any (P ++ Q) AX cX T w6 hTl.out R6.out (by omega) hcX.1 hcX.2
      rw [q1.out] at G1
      replace G1 := Lib.hid G1
      go_wp2_with fail
      refine G1.out.mono ?_
      rintro e w7 ⟨Ag, ng, cg, rfl, _, Ig, b7⟩
      have hng : ng = k := by obtain ⟨_, _, h2, _⟩ := Ig; rw [hidl.out] at h2; exact h2.symm
      subst hng
      simp only [← hcs_arr]
      have I7 := Lib.hid (I6.out.below b7)
      have B7 := Lib.hid (B6.out.trans (b7.mono B6.out.size))
      have R7 := Lib.hid (R6.out.below b7)
      have P7 := Lib.hid (P6.out.below b7)
      have hl7 : Hid ((hcs sv r Ag ng cg).length = 34) := Lib.hid (hcl_len _ _ _ _ _ hr.out)
      have h17 : Hid (∀ u ∈ hcs sv r Ag ng cg, u.oneCell' = true) := Lib.hid (hcl_one _ _ _ _ _)
      replace Ig := Lib.hid Ig
      clear b7 G1 I6 B6 R6 P6
      have hX8 : Hid (∀ (w8 : World) (lit : Array Value), lit.size = 34 → w8.heap[w7.heap.size]? = some (.cells (over lit 0 (hcs sv r Ag ng cg)) 27 (0, 0)) → Fr (fun k => k = w7.heap.size) (w7.alloc (.cells lit 27)) w8 → Hv w6.heap.size w8 w7.heap.size sv r Ag ng cg ids ∧ Below w7.heap.size w7 w8) := Lib.hid (fun w8 lit hs h F => Hv.new hs hr.out Ig.out h F)
      have hneq : ((ng : Int) != (ng : Int)) = false := by simp
      have hL5 : decide ((L : Int) < 5) = false := decide_eq_false (by omega)
      have hL5' : decide (L < 5) = false := decide_eq_false (by omega)
      have HN2 := HN.out
      have hsb2 := hsb.out
      go_wp2_with (first
        | (refine wpList_store_block rfl 27 (.tmp 15) (.tmp 59) rfl w7.heap.size 0 (hcs sv r Ag ng cg) rfl rfl _ _ (heap_alloc_new _ _) (by rw [hl7.out]; decide) (by rw [hl7.out]; exact hinfo27) h17.out ?_; intro w8 h8 F8; obtain ⟨V17, b8⟩ := hX8.out w8 _ (by decide) h8 F8; have W17 := Lib.hid V17; have I8 := Lib.hid (I7.out.below b8); have B8 := Lib.hid (B7.out.trans (b8.mono B7.out.size)); have R8 := Lib.hid (R7.out.below b8); have P8 := Lib.hid (P7.out.below b8); have x17 := V17.c0; have y17 := V17.c33; have z17 := Lib.hid V17.rr; have rr8 := Lib.hid (R0.out w8 B8.out); clear h8 F8 b8 V17 I7 B7 R7 P7)
        | (refine wpList_loadG rfl 22 (.tmp 86) rfl w7.heap.size 1 rfl (bv r) _ z17.out Try.underlying22 rfl (by rw [hbr.out]; exact hinfo22) ?_)
        | (refine wpList_loadG rfl 22 (.tmp 6) rfl w.heap.size 0 rfl (bv r) _ rr8.out Try.underlying22 rfl (by rw [hbr.out]; exact hinfo22) ?_))
      have E17 := Lib.hid W17.out.id.rd
      have E8 := Lib.hid I8.out.rd
      clear x17 z17 rr8 HN2 hneq hX8 Ig hl7 h17 hsb2 hL5 hL5'
      go_loopw [18] (fun i wr => ∃ j q : Nat, j ≤ ng ∧ i = .int .i64 j ∧ wr = w8.drewN q) (fun i _ => ng - (intOf i).toNat)
      case atStart => exact ⟨0, 0, by omega, rfl, rfl⟩
      case round =>
        obtain ⟨j, qd, hj, rfl, rfl⟩ := hrel
        by_cases hjm : j < ng
        · rename_i aa; clear aa
          have hjl : j < ids.length := by rw [hidl.out]; exact hjm
          obtain ⟨b1, o1', Ak, ck, rfl, c1, r1, _, _⟩ := E17.out.at_ hjl
          obtain ⟨b2, o2', Bk, dk, rfl, c2, r2, _, _⟩ := E8.out.at_ hjl
          have hid8 := hids8.out _ (List.getElem_mem hjl)
          obtain ⟨id, hid⟩ : ∃ id, ids[j] = id := ⟨_, rfl⟩
          rw [hid] at c1 r1 c2 r2 hid8
          rw [hid8] at c1 c2
          have SC : Hid (∀ W : World, Rd W Ak (bv id) → Rd W Bk (bv id) → Calls Try.prog 12 #[.slice Ak 8 ck, .slice Bk 8 dk] W fun e w' => e = .returned (.bool true) ∧ ∃ k, w' = W.drewN k) := Lib.hid (fun W h1 h2 => by
            have := same_any id id Ak Bk ck dk W h1 h2 (by omega) (by omega)
            rw [hid8, decide_eq_true (rfl : id = id)] at this
            exact this)
          have hj0 : (0 : Int) ≤ (j : Int) := by omega
          have hjI : (j : Int) < (ng : Int) := by omega
          clear hid
          replace hid8 := Lib.hid hid8
          replace r1 := Lib.hid r1
          replace r2 := Lib.hid r2
          go_wp2_with fail
          go_quiet ((go_at_call 12; first | exact Calls.quiet_of (SC.out _ (r1.out.drewN _) (r2.out.drewN _)) | exact quiet_add (SC.out _ (r1.out.drewN _) (r2.out.drewN _)) | exact Calls.quiet_of (SC.out _ ((r1.out.drewN _).drewN _) ((r2.out.drewN _).drewN _)) | exact quiet_add (SC.out _ ((r1.out.drewN _).drewN _) ((r2.out.drewN _).drewN _))))
          go_wp2_with fail
          go_roundw
          case rel => exact ⟨j + 1, qd + nq, by omega, by go_num, rfl⟩
          case measure => simp [intOf]; omega
        · have hj' : j = ng := by omega
          subst hj'
          have ST9 := Still.drewN w8 qd
          obtain ⟨w9, hw9⟩ : ∃ w9, w8.drewN qd = w9 := ⟨_, rfl⟩
          rw [hw9] at ST9 ⊢
          clear hw9
          have B9 := Lib.hid (B8.out.trans (ST9.below.mono B8.out.size))
          have R9 := Lib.hid (ST9.rd R8.out)
          have P9 := Lib.hid (ST9.rd P8.out)
          obtain ⟨XL, hXL, hXLc⟩ := cut_l (P := Try.prog) Try.underlying24 infoB AX T cX L hTb.1 hcX.1
          obtain ⟨TQ, hTQ⟩ : ∃ TQ, T - L = TQ := ⟨_, rfl⟩
          obtain ⟨cQ, hcQ⟩ : ∃ cQ, cX - L = cQ := ⟨_, rfl⟩
          rw [hTQ, hcQ] at hXL
          have hdrop : (P ++ Q).drop L = Q := by rw [← hPl.out]; exact List.drop_left
          have RQ9 := hXLc.bytes' R9.out hTl.out hcX.1
          rw [hdrop] at RQ9
          have hQT : Hid (Q.length = TQ) := Lib.hid (by have := hQl.out; have := hT.out; omega)
          have hTQb : TQ ≤ 200 ∧ TQ ≤ cQ ∧ cQ ≤ 9223372036854775807 := ⟨by omega, by have := hcX.1; omega, by omega⟩
          have hLT : (L : Int) ≤ (T : Int) := by omega
          replace RQ9 := Lib.hid RQ9
          replace hTQ := Lib.hid hTQ
          replace hcQ := Lib.hid hcQ
          replace hdrop := Lib.hid hdrop
          clear ST9 B8 R8 P8 hXLc y17 W17 I8 E17 E8
          have G3 := hfin_any Q XL cQ TQ w9 hQT.out RQ9.out (by omega) hTQb.2.1 hTQb.2.2
          rw [q3.out] at G3
          replace G3 := Lib.hid G3
          go_wp2_with fail
          refine G3.out.mono ?_
          rintro e w10 ⟨rfl, _, b10⟩
          simp only
          have B10 := Lib.hid (B9.out.trans (b10.mono B9.out.size))
          have P10 := Lib.hid (P9.out.below b10)
          have HN3 := HN.out
          have hL4I' := hL4I.out
          clear b10 G3 B9 R9 P9 RQ9
          go_wp2_with (first
            | (refine wpList_store_block rfl 22 (.tmp 19) (.tmp 121) rfl w10.heap.size 0 (bv r) rfl rfl _ _ (heap_alloc_new _ _) (by rw [hbr.out]; decide) (by rw [hbr.out]; exact hinfo22) (bv_one _) ?_; intro w11 h11 F11; obtain ⟨k11, b11⟩ := alloc_store h11 F11 (by rw [hbr.out]; decide); have B11 := Lib.hid (B10.out.trans (b11.mono B10.out.size)); have P11 := Lib.hid (P10.out.below b11); have z11 := Lib.hid (range_of_block k11); have rr11 := Lib.hid (R0.out w11 B11.out); clear h11 F11 b11 B10 P10 k11)
            | (refine wpList_loadG rfl 22 (.tmp 19) rfl w10.heap.size 0 rfl (bv r) _ z11.out Try.underlying22 rfl (by rw [hbr.out]; exact hinfo22) ?_)
            | (refine wpList_loadG rfl 22 (.tmp 6) rfl w.heap.size 0 rfl (bv r) _ rr11.out Try.underlying22 rfl (by rw [hbr.out]; exact hinfo22) ?_))
          refine (LO.out _).mono ?_
          rintro e w' ⟨rfl, rfl⟩
          have hOI' := hOI.out
          have hJI' := hJI.out
          have HC := cut_hI (P := Try.prog) Try.underlying24 infoB Ab L cb J (J : Int) rfl (by omega)
          have hTk : Hid ((P.take J).length = J) := Lib.hid (by rw [List.length_take, hPl.out]; omega)
          have K5 := hkind_any (P.take J) Ab cb J w11 hTk.out (P11.out.take_bytes J) (by omega)
          rw [q5.out] at K5
          replace K5 := Lib.hid K5
          clear HN3 z11 rr11 hL4I'
          rcases hkv.out with ⟨rfl, rfl⟩ | ⟨rfl, rfl⟩
          all_goals
            go_wp2_with fail
            refine K5.out.mono ?_
            rintro e w12 ⟨rfl, ST⟩
            simp only [t3]
            have B12 := Lib.hid (B11.out.trans (ST.below.mono B11.out.size))
            have P12 := ST.rd P11.out
            have G6 := hgetL_any (P.take J) Ab cb J w12 hTk.out (P12.take_bytes J) (by omega) (by omega) hcb.2
            rw [q4.out] at G6
            replace G6 := Lib.hid G6
            replace P12 := Lib.hid P12
            clear ST K5 B11 P11
            go_wp2_with fail
            refine G6.out.mono ?_
            rintro e w14 ⟨LT, rfl, hl14, h114, _, b14⟩
            simp only
            have B14 := Lib.hid (B12.out.trans (b14.mono B12.out.size))
            replace hl14 := Lib.hid hl14
            replace h114 := Lib.hid h114
            clear b14 G6 B12 P12
            go_wp2_with (refine wpList_store_block rfl 27 (.tmp 25) (.tmp 162) rfl w14.heap.size 0 LT rfl rfl _ _ (heap_alloc_new _ _) (by rw [hl14.out]; decide) (by rw [hl14.out]; exact hinfo27) h114.out ?_; intro w15 h15 F15; obtain ⟨_, b15⟩ := alloc_store h15 F15 (by rw [hl14.out]; decide); have B15 := Lib.hid (B14.out.trans (b15.mono B14.out.size)); clear h15 F15 b15 B14)
            refine (awake_any _).mono ?_
            rintro e w16 ⟨rfl, b16⟩
            have B16 := Lib.hid (B15.out.trans (b16.mono B15.out.size))
            clear b16
            go_wp2_with fail
            go_ret
            exact ⟨rfl, BW.out.trans (B16.out.mono BW.out.size)⟩
end Go.Proofs.Ytlepceajpgloeaa
