/- HelloJoins answers true at every input. -/
import Derived.Test.YtlepceajpgloeaaHlT
namespace Go.Proofs.Ytlepceajpgloeaa
open Go.RowKit

theorem one_sl (A : Option Addr) (n c : Nat) : ∀ u ∈ [Value.slice A n c], u.oneCell' = true := by
  intro u hu; rw [List.mem_singleton.1 hu]; rfl

set_option maxRecDepth 100000 in
set_option maxHeartbeats 8000000 in
theorem hjoins_in (r mac bh : List UInt8) (many : Int) (sv : Bool) (AB : Option Addr) (cB nB : Nat) (w : World) (hr : r.length = 32) (hmac : mac.length = 32) (hbh : bh.length = nB) (hB : Rd w AB (bv bh)) (hnB : nB ≤ 40) :
    Calls Try.prog 6 #[.agg (bv r).toArray, .int .i64 many, .bool sv, .agg (bv mac).toArray, .slice AB nB cB] w fun e w' => e = .returned (.bool true) ∧ Below w.heap.size w w' := by
  obtain ⟨m1, hm1, L1⟩ := low_ex many 4 (by omega) (by omega)
  obtain ⟨m, hm⟩ : ∃ m, 1 + m1 = m := ⟨_, rfl⟩
  have hmI : (1 : Int) + (m1 : Int) = (m : Int) := by omega
  have hm4 : 1 ≤ m ∧ m ≤ 4 := by omega
  obtain ⟨L, hL⟩ : ∃ L, 37 + 9 * m = L := ⟨_, rfl⟩
  have d40 : decide ((40 : Int) < (nB : Int)) = false := decide_eq_false (by omega)
  obtain ⟨b0, hb0⟩ : ∃ b0, (r.getD 0 0).toNat = b0 := ⟨_, rfl⟩
  have hb0b : b0 ≤ 255 := by have := UInt8.toNat_lt (r.getD 0 0); omega
  have HO : Hid (∀ W2, W2 = (w.alloc (.cells (bv r).toArray 22)).alloc (.cells (bv mac).toArray 22) → W2.heap.size = w.heap.size + 2 ∧ W2.heap[w.heap.size]? = some (.cells (bv r).toArray 22 (0, 0)) ∧ W2.heap[w.heap.size + 1]? = some (.cells (bv mac).toArray 22 (0, 0)) ∧ Below w.heap.size w W2 ∧ Rd W2 AB (bv bh)) := Lib.hid (fun W2 h3 => by
    have a1 := heap_alloc_new w (.cells (bv r).toArray 22)
    have s1 : (w.alloc (.cells (bv r).toArray 22)).heap.size = w.heap.size + 1 := by simp
    have b1 : Below w.heap.size w (w.alloc (.cells (bv r).toArray 22)) := (Below.refl _ w).alloc (by omega) _
    have r1 := hB.alloc (.cells (bv r).toArray 22)
    obtain ⟨wa, hwa⟩ : ∃ wa, w.alloc (.cells (bv r).toArray 22) = wa := ⟨_, rfl⟩
    rw [hwa] at a1 s1 b1 r1 h3
    have a2 := heap_alloc_new wa (.cells (bv mac).toArray 22)
    rw [s1] at a2
    subst h3
    exact ⟨by simp [s1], heap_fr a1 (Fr.of_below ((Below.refl wa.heap.size wa).alloc (Nat.le_refl _) _) NoS) (fun x => x), a2, b1.alloc (by omega) _, r1.alloc _⟩)
  have HN := fun w => neq22 r r hr hr w
  rw [decide_eq_true (rfl : r = r)] at HN
  have HE := fun w => eql22 mac mac hmac hmac w
  rw [decide_eq_true (rfl : mac = mac)] at HE
  have hsb : (sv != sv) = false := by simp
  have hbr : (bv r).length = 32 := by rw [bv_length, hr]
  have hbm : (bv mac).length = 32 := by rw [bv_length, hmac]
  replace hr := Lib.hid hr
  replace hmac := Lib.hid hmac
  replace hbh := Lib.hid hbh
  replace hbr := Lib.hid hbr
  replace hbm := Lib.hid hbm
  replace L1 := Lib.hid L1
  replace hb0 := Lib.hid hb0
  have hLb : L ≤ 73 ∧ 46 ≤ L := by omega
  have hLN : Hid ((L : Int) = 37 + 9 * (m : Int)) := Lib.hid (by omega)
  replace hL := Lib.hid hL
  replace HN := Lib.hid HN
  replace HE := Lib.hid HE
  clear hm hB
  go_enter Try.func6, Try.ntmps6
  have R0 : Hid (∀ W2, W2 = (w.alloc (.cells (bv r).toArray 22)).alloc (.cells (bv mac).toArray 22) → W2.rangeAt w.heap.size 0 (bv r)) := Lib.hid (fun W2 h => by
    have := range_of_block (HO.out W2 h).2.1
    exact this)
  go_wp2_with (first | (refine wpList_load_mid rfl 22 (.tmp 5) rfl w.heap.size 0 rfl (bv r) _ (R0.out _ rfl) Try.underlying22 rfl (by rw [hbr.out]; exact hinfo22) ?_; have K0 := HO.out _ rfl; obtain ⟨W2, hW2⟩ : ∃ W2, (w.alloc (.cells (bv r).toArray 22)).alloc (.cells (bv mac).toArray 22) = W2 := ⟨_, rfl⟩; rw [hW2] at K0 ⊢; clear hW2 HO R0; obtain ⟨s2, kr, km, BW, RB⟩ := K0; replace s2 := Lib.hid s2; replace kr := Lib.hid kr; replace km := Lib.hid km; replace BW := Lib.hid BW; replace RB := Lib.hid RB) | (refine wpList_build rfl 27 #[(0, .tmp 34), (1, .tmp 35)] rfl (.agg (hcl sv r none 0 0)) #[(0, .bool sv), (1, .agg (bv r).toArray)] (by simp only [List.map_toArray, List.map_cons, List.map_nil]; rfl) (build27p sv r hr.out _) ?_) | (refine wpList_store_block rfl 27 (.tmp 11) (.tmp 36) rfl W2.heap.size 0 (hcs sv r none 0 0) rfl rfl _ _ (heap_alloc_new _ _) (by rw [hcs, hcl_len _ _ _ _ _ hr.out]; decide) (by rw [hcs, hcl_len _ _ _ _ _ hr.out]; exact hinfo27) (hcl_one _ _ _ _ _) ?_; intro w1 h1 F1; obtain ⟨V1, B1⟩ := Hv.new (B := W2.heap.size) (s := sv) (r := r) (A := none) (n := 0) (c := 0) (ids := []) (by decide) hr.out (Ids.nil _ _) h1 F1; replace V1 := Lib.hid V1; replace B1 := Lib.hid B1; clear h1 F1))
  refine (L1.out _).mono ?_
  rintro e w' ⟨rfl, rfl⟩
  clear L1 d40
  go_wp2_with fail
  go_loopw [12] (fun i wr => ∃ (k c : Nat) (A : Option Addr), k ≤ m ∧ i = .int .i64 k ∧ Hid (Hv W2.heap.size wr W2.heap.size sv r A k c (gids b0 k) ∧ Below W2.heap.size W2 wr)) (fun i _ => m - (intOf i).toNat)
  case atStart => exact ⟨0, 0, none, by omega, rfl, Lib.hid ⟨V1.out, B1.out⟩⟩
  case round =>
    clear V1 B1
    obtain ⟨k, c, A, hk, rfl, HS⟩ := hrel
    by_cases hkm : k < m
    · rename_i aa; clear aa
      obtain ⟨q, hq⟩ : ∃ q, k + b0 = q := ⟨_, rfl⟩
      have G1 : Hid (∀ W : World, Calls Try.prog 18 #[.int .i64 8, .int .i64 (q : Int)] W (RetS 5 W 8 (bv (growl 8 q)))) := Lib.hid (fun W => grow_any 8 q W (by omega) (by omega))
      have cell0 := HS.out.1.c33
      have hlt := HS.out.1.lt
      have cr0 := wrote_cell (heap_fr kr.out (Fr.of_below HS.out.2 NoS) (fun x => x)) 0 (.int .u8 (b0 : Int)) (by
        rw [List.getElem?_toArray, bv_get (k := 0) (by rw [hr.out]; omega), ← hb0.out, List.getD_eq_getElem?_getD, List.getElem?_eq_getElem (by rw [hr.out]; omega)]; rfl)
      have BA := Lib.hid (fun (W : World) (o : Obj) => ((Below.refl _ W).alloc (Nat.le_refl _) o : Below W.heap.size W (W.alloc o)))
      have hqI : (k : Int) + (b0 : Int) = (q : Int) := by omega
      have hqb : q ≤ 300 := by omega
      replace hq := Lib.hid hq
      have hmx1 : k + 1 ≤ maxLen := by unfold maxLen; omega
      have hmx2 : (k + 1) * 24 ≤ 140737488355328 := by omega
      have hk1m : k + 1 ≤ m := by omega
      have hqw : IntKind.i64.wrap (q : Int) = (q : Int) := IntWalk.i64_in _ (by omega)
      have hbw : IntKind.i64.wrap (b0 : Int) = (b0 : Int) := IntWalk.i64_in _ (by clear hqw; omega)
      go_wp2_with fail
      go_region_law (first
        | (go_simp; go_at_call 18; (with_reducible refine (G1.out _).mono ?_); rintro e w2 ⟨A1, k1, rfl, o1, b1⟩; have b2 : Below wr.heap.size wr w2 := (Still.drew wr).below.trans b1; have N2 := Lib.hid (HS.out.1.below b2); have BB2 := Lib.hid (HS.out.2.trans (b2.mono HS.out.2.size)); have O2 := Lib.hid (own_base (base2 := W2.heap.size) o1 (fun q hq => Nat.le_trans HS.out.2.size (o1.lt q hq).1)); have cell1 := (b2.cell (p := ⟨W2.heap.size, 33, none⟩) hlt).trans cell0; have cell1a := fun o => Lib.cell?_alloc_some o cell1; clear b2 b1 o1)
        | ((have PU := (N2.out.below (BA.out w2 (.cells #[.slice A1 8 k1] 24))).push (Nat.le_refl _) (BB2.out.trans ((BA.out w2 (.cells #[.slice A1 8 k1] 24)).mono BB2.out.size)) (id := growl 8 q) (growl_length 8 q) (O2.out.alloc _)); obtain ⟨vs, hvs, hstep⟩ := PU; refine step_app rfl _ _ 23 rfl W2.heap.size 24 (.slice none 0 0) 24 infoS Try.underlying23 rfl (.slice A k c) k vs rfl hvs (some ⟨w2.heap.size, 0, none⟩) 1 1 [.slice A1 8 k1] rfl rfl (Rd.fresh_mark w2 [.slice A1 8 k1] 24 (0, 0)) (one_sl _ _ _) hmx1 hmx2 (Nat.le_trans BB2.out.size (BA.out w2 (.cells #[.slice A1 8 k1] 24)).size) ?_; intro A3 q3 w3 o3 g3 _; obtain ⟨cell3, fr3, NX⟩ := hstep w3 A3 q3 o3 g3; replace NX := Lib.hid NX; clear hvs hstep o3 g3))
      all_goals
        clear cell0 cell1 cell1a cell3 fr3 hqI hqw hbw cr0
        go_wp2_with fail
        go_roundw
        case rel => exact ⟨k + 1, q3, A3, hk1m, by go_num, Lib.hid ⟨by rw [gids_succ, hq.out]; exact NX.out.1, NX.out.2⟩⟩
        case measure => simp [intOf]; omega
    · have hk' : k = m := by omega
      subst hk'
      have hids8 := gids_8 b0 k
      have hidl := gids_len b0 k
      obtain ⟨ids, hids⟩ : ∃ ids, gids b0 k = ids := ⟨_, rfl⟩
      rw [hids] at HS hids8 hidl
      obtain ⟨P, hP⟩ : ∃ P, hpiece (if sv then 2 else 1) (hbod r ids) = P := ⟨_, rfl⟩
      have hPl : P.length = L := by rw [← hP, hpiece_length, hbod_length r ids hr.out hids8, hidl]; have := hL.out; omega
      have PU := hput_any sv r ids A k c wr hr.out hidl HS.out.1.id.rd (by omega)
      rw [hput_ok sv r ids hids8 (by omega) (by omega), hP] at PU
      unfold RetP at PU
      simp only [hPl] at PU
      obtain ⟨Q, hQ⟩ : ∃ Q, hpiece 20 mac ++ bh = Q := ⟨_, rfl⟩
      have q1 := hget_piece sv r ids Q hr.out hids8 (by omega) (by omega)
      have q2 := hfinr_hello sv r ids Q hr.out hids8 (by omega)
      rw [hP, hidl, hL.out] at q1
      rw [hP] at q2
      have q3 := hfinr_piece mac bh hmac.out
      have q4 := hget_kind20 mac bh (by rw [hmac.out]; omega)
      rw [hQ] at q3 q4
      have hQl : Q.length = 36 + nB := by rw [← hQ, List.length_append, hpiece_length, hmac.out, hbh.out]
      have e9 : ((L : Int) != 37 + 9 * (k : Int)) = false := by rw [bne_eq_false_iff_eq]; exact hLN.out
      have LS1 : (hcs sv r A k c).length = 34 := hcl_len _ _ _ _ _ hr.out
      have LS2 := hcl_one sv r A k c
      have R0 := HS.out.1.range
      have HV := Lib.hid HS.out.1
      have HBw := Lib.hid HS.out.2
      obtain ⟨LS, hLS⟩ : ∃ LS, hcs sv r A k c = LS := ⟨_, rfl⟩
      rw [← hcs_arr, hLS] at PU
      rw [hLS] at R0 LS1
      have LS3 : ∀ u ∈ LS, u.oneCell' = true := by rw [← hLS]; exact LS2
      have PUh := Lib.hid PU
      replace q1 := Lib.hid q1
      replace q2 := Lib.hid q2
      replace q3 := Lib.hid q3
      replace q4 := Lib.hid q4
      replace hP := Lib.hid hP
      replace hPl := Lib.hid hPl
      replace hQ := Lib.hid hQ
      replace hQl := Lib.hid hQl
      replace hids := Lib.hid hids
      replace hids8 := Lib.hid hids8
      replace hidl := Lib.hid hidl
      replace LS1 := Lib.hid LS1
      replace LS3 := Lib.hid LS3
      replace R0 := Lib.hid R0
      replace hLS := Lib.hid hLS
      clear PU LS2 HS hkm
      go_wp2_with (refine wpList_load_mid rfl 27 (.tmp 11) rfl W2.heap.size 0 rfl LS _ R0.out Try.underlying27 rfl (by rw [LS1.out]; exact hinfo27) ?_)
      refine PUh.out.mono ?_
      rintro e w2 ⟨Ab, cb, rfl, ob, b2⟩
      have V2 := Lib.hid (HV.out.below b2)
      have B2 := Lib.hid (HBw.out.trans (b2.mono HBw.out.size))
      have R2 := Lib.hid (Rd.of_own ob)
      have hcb := RetS.cap ob
      have rm2 : Hid (w2.rangeAt (w.heap.size + 1) 0 (bv mac)) := Lib.hid (by
        have := range_of_block (heap_fr km.out (Fr.of_below B2.out NoS) (fun x => x))
        exact this)
      clear ob b2 PUh R0 LS1 LS3 hLS HBw HV
      go_wp2_with (refine wpList_load_mid rfl 22 (.tmp 8) rfl (w.heap.size + 1) 0 rfl (bv mac) _ rm2.out Try.underlying22 rfl (by rw [hbm.out]; exact hinfo22) ?_)
      refine (putfin_any mac w2 hmac.out).mono ?_
      rintro e w3 ⟨Af, cf, rfl, of, b3⟩
      have V3 := Lib.hid (V2.out.below b3)
      have B3 := Lib.hid (B2.out.trans (b3.mono B2.out.size))
      have R3 := Lib.hid (R2.out.below b3)
      have RF3 := Lib.hid (Rd.of_own of)
      have RB3 := Lib.hid (RB.out.below B3.out)
      clear of b3 V2 B2 R2 rm2
      go_wp2_with (at_builtin; refine Hid.out ?_)
      refine Lib.hid ?_
      refine wpList_app _ rfl _ _ 24 rfl w3.heap.size 5 (.int .u8 0) 1 infoB Try.underlying24 rfl (.slice none 0 0) 0 [] rfl (World.ownsRow_nil _ _ _ _) Ab L cb (bv P) rfl (by rw [bv_length]; exact hPl.out) R3.out (bv_one _) (by unfold maxLen; omega) (by omega) (Nat.le_refl _) ?_
      intro A4 c4 w4 o4 g4 _
      simp only [Nat.zero_add, List.nil_append] at o4 ⊢
      have b4 := (Below.refl _ w3).grown g4 (Nat.le_refl _) (fun q hq => by simp [Value.ownBlock] at hq)
      have RF4 := Lib.hid (RF3.out.below b4)
      replace o4 := Lib.hid o4
      replace b4 := Lib.hid b4
      clear g4
      go_wp2_with (at_builtin; refine Hid.out ?_)
      refine Lib.hid ?_
      refine wpList_app _ rfl _ _ 24 rfl w3.heap.size 5 (.int .u8 0) 1 infoB Try.underlying24 rfl (.slice A4 L c4) L (bv P) rfl o4.out Af 36 cf (bv (hpiece 20 mac)) rfl (by rw [bv_length, hpiece_length, hmac.out]) RF4.out (bv_one _) (by unfold maxLen; omega) (by omega) b4.out.size ?_
      intro A5 c5 w5 o5 g5 _
      have b5 := Fr.under b4.out b4.out.size ((Fr.refl (fun q => (Value.slice A4 L c4).ownBlock = some q) w4).grown g5 (fun _ hq _ => hq)) (fun q hq _ => (o4.out.lt q hq).1)
      rw [← bv_append] at o5
      have RB5 := Lib.hid (RB3.out.below b5)
      replace o5 := Lib.hid o5
      replace b5 := Lib.hid b5
      clear g5 o4 b4 RF4 RF3 RB3
      go_wp2_with (at_builtin; refine Hid.out ?_)
      refine Lib.hid ?_
      refine wpList_app _ rfl _ _ 24 rfl w3.heap.size 5 (.int .u8 0) 1 infoB Try.underlying24 rfl (.slice A5 (L + 36) c5) (L + 36) (bv (P ++ hpiece 20 mac)) rfl o5.out AB nB cB (bv bh) rfl (by rw [bv_length]; exact hbh.out) RB5.out (bv_one _) (by unfold maxLen; omega) (by omega) b5.out.size ?_
      intro AX cX w6 o6 g6 _
      have b6 := Fr.under b5.out b5.out.size ((Fr.refl (fun q => (Value.slice A5 (L + 36) c5).ownBlock = some q) w5).grown g6 (fun _ hq _ => hq)) (fun q hq _ => (o5.out.lt q hq).1)
      rw [← bv_append, List.append_assoc, hQ.out] at o6
      obtain ⟨T, hT⟩ : ∃ T, L + 36 + nB = T := ⟨_, rfl⟩
      rw [hT] at o6 ⊢
      have V6 := Lib.hid (V3.out.below b6)
      have B6 := Lib.hid (B3.out.trans (b6.mono B3.out.size))
      have R6 := Lib.hid (Rd.of_own o6)
      have hcX := RetS.cap o6
      have hTb : L ≤ T ∧ T ≤ 200 := by omega
      have hTl : Hid ((P ++ Q).length = T) := Lib.hid (by rw [List.length_append, hPl.out, hQl.out]; omega)
      replace hT := Lib.hid hT
      clear g6 o6 b6 o5 b5 RB5 V3 B3 R3 RB
      have G1 := hget_any (P ++ Q) AX cX T w6 hTl.out R6.out (by omega) hcX.1 hcX.2
      rw [q1.out] at G1
      go_wp2_with fail
      refine G1.mono ?_
      rintro e w7 ⟨Ag, ng, cg, rfl, _, Ig, b7⟩
      have hng : ng = k := by obtain ⟨_, _, h2, _⟩ := Ig; rw [hidl.out] at h2; exact h2.symm
      subst hng
      simp only [← hcs_arr]
      have V7 := Lib.hid (V6.out.below b7)
      have B7 := Lib.hid (B6.out.trans (b7.mono B6.out.size))
      have R7 := Lib.hid (R6.out.below b7)
      have hl7 : Hid ((hcs sv r Ag ng cg).length = 34) := Lib.hid (hcl_len _ _ _ _ _ hr.out)
      have h17 : Hid (∀ u ∈ hcs sv r Ag ng cg, u.oneCell' = true) := Lib.hid (hcl_one _ _ _ _ _)
      replace Ig := Lib.hid Ig
      clear b7 G1 V6 B6 R6
      have hcX2 : (L : Int) ≤ (T : Int) := by omega
      have hX8 : Hid (∀ (w8 : World) (lit : Array Value), lit.size = 34 → w8.heap[w7.heap.size]? = some (.cells (over lit 0 (hcs sv r Ag ng cg)) 27 (0, 0)) → Fr (fun k => k = w7.heap.size) (w7.alloc (.cells lit 27)) w8 → Hv w6.heap.size w8 w7.heap.size sv r Ag ng cg ids ∧ Below w7.heap.size w7 w8) := Lib.hid (fun w8 lit hs h F => Hv.new hs hr.out Ig.out h F)
      have hneq : ((ng : Int) != (ng : Int)) = false := by simp
      have rr7 : Hid (∀ w', Below W2.heap.size W2 w' → w'.rangeAt w.heap.size 0 (bv r)) := Lib.hid (fun w' b => by
        have := range_of_block (heap_fr kr.out (Fr.of_below b NoS) (fun x => x))
        exact this)
      have HN2 := HN.out
      go_wp2_with (first
        | (refine wpList_store_block rfl 27 (.tmp 17) (.tmp 87) rfl w7.heap.size 0 (hcs sv r Ag ng cg) rfl rfl _ _ (heap_alloc_new _ _) (by rw [hl7.out]; decide) (by rw [hl7.out]; exact hinfo27) h17.out ?_; intro w8 h8 F8; obtain ⟨V17, b8⟩ := hX8.out w8 _ (by decide) h8 F8; have W17 := Lib.hid V17; have V8 := Lib.hid (V7.out.below b8); have B8 := Lib.hid (B7.out.trans (b8.mono B7.out.size)); have R8 := Lib.hid (R7.out.below b8); have x17 := V17.c0; have y17 := V17.c33; have z17 := Lib.hid V17.rr; have rr8 := Lib.hid (rr7.out w8 B8.out); clear h8 F8 b8 V17 V7 B7 R7)
        | (refine wpList_loadG rfl 22 (.tmp 105) rfl w7.heap.size 1 rfl (bv r) _ z17.out Try.underlying22 rfl (by rw [hbr.out]; exact hinfo22) ?_)
        | (refine wpList_loadG rfl 22 (.tmp 5) rfl w.heap.size 0 rfl (bv r) _ rr8.out Try.underlying22 rfl (by rw [hbr.out]; exact hinfo22) ?_))
      have E17 := Lib.hid W17.out.id.rd
      have E8 := Lib.hid V8.out.id.rd
      have y8 := V8.out.c33
      clear x17 z17 rr8 rr7 HN2 hneq hX8 Ig hl7 h17 hsb e9
      go_loopw [20] (fun i wr => ∃ j q : Nat, j ≤ ng ∧ i = .int .i64 j ∧ wr = w8.drewN q) (fun i _ => ng - (intOf i).toNat)
      case atStart => exact ⟨0, 0, by omega, rfl, rfl⟩
      case round =>
        obtain ⟨j, qd, hj, rfl, rfl⟩ := hrel
        by_cases hjm : j < ng
        · rename_i aa; clear aa
          have hjl : j < ids.length := by rw [hidl.out]; exact hjm
          obtain ⟨b1, o1, Ak, ck, rfl, c1, r1, _, _⟩ := E17.out.at_ hjl
          obtain ⟨b2, o2, Bk, dk, rfl, c2, r2, _, _⟩ := E8.out.at_ hjl
          have hid8 := hids8.out _ (List.getElem_mem hjl)
          obtain ⟨id, hid⟩ : ∃ id, ids[j] = id := ⟨_, rfl⟩
          rw [hid] at c1 r1 c2 r2 hid8
          rw [hid8] at c1 c2
          have SC : Hid (∀ W : World, Rd W Ak (bv id) → Rd W Bk (bv id) → Calls Try.prog 12 #[.slice Ak 8 ck, .slice Bk 8 dk] W fun e w' => e = .returned (.bool true) ∧ ∃ k, w' = W.drewN k) := Lib.hid (fun W h1 h2 => by
            have := same_any id id Ak Bk ck dk W h1 h2 (by omega) (by omega)
            rw [hid8, decide_eq_true (rfl : id = id)] at this
            exact this)
          have hj0 : (0 : Int) ≤ (j : Int) := by omega
          have hjI : (j : Int) < (ng : Int) := by omega
          clear hid
          replace hid8 := Lib.hid hid8
          replace r1 := Lib.hid r1
          replace r2 := Lib.hid r2
          go_wp2_with fail
          go_quiet ((go_at_call 12; first | exact Calls.quiet_of (SC.out _ (r1.out.drewN _) (r2.out.drewN _)) | exact quiet_add (SC.out _ (r1.out.drewN _) (r2.out.drewN _)) | exact Calls.quiet_of (SC.out _ ((r1.out.drewN _).drewN _) ((r2.out.drewN _).drewN _)) | exact quiet_add (SC.out _ ((r1.out.drewN _).drewN _) ((r2.out.drewN _).drewN _))))
          go_wp2_with fail
          go_roundw
          case rel => exact ⟨j + 1, qd + nq, by omega, by go_num, rfl⟩
          case measure => simp [intOf]; omega
        · have hj' : j = ng := by omega
          subst hj'
          have ST9 := Still.drewN w8 qd
          obtain ⟨w9, hw9⟩ : ∃ w9, w8.drewN qd = w9 := ⟨_, rfl⟩
          rw [hw9] at ST9 ⊢
          clear hw9
          have B9 := Lib.hid (B8.out.trans (ST9.below.mono B8.out.size))
          have R9 := Lib.hid (ST9.rd R8.out)
          obtain ⟨XL, hXL, hXLc⟩ := cut_l (P := Try.prog) Try.underlying24 infoB AX T cX L hTb.1 hcX.1
          obtain ⟨TQ, hTQ⟩ : ∃ TQ, T - L = TQ := ⟨_, rfl⟩
          obtain ⟨cQ, hcQ⟩ : ∃ cQ, cX - L = cQ := ⟨_, rfl⟩
          rw [hTQ, hcQ] at hXL
          have hdrop : (P ++ Q).drop L = Q := by rw [← hPl.out]; exact List.drop_left
          have RQ9 := hXLc.bytes' R9.out hTl.out hcX.1
          rw [hdrop] at RQ9
          have hQT : Hid (Q.length = TQ) := Lib.hid (by have := hQl.out; have := hT.out; omega)
          have hTQb : TQ ≤ 200 ∧ TQ ≤ cQ ∧ cQ ≤ 9223372036854775807 := ⟨by omega, by have := hcX.1; omega, by omega⟩
          replace RQ9 := Lib.hid RQ9
          replace hTQ := Lib.hid hTQ
          replace hcQ := Lib.hid hcQ
          replace hdrop := Lib.hid hdrop
          clear ST9 B8 R8 hXLc y17 y8 W17 V8 E17 E8
          have G3 := hfin_any Q XL cQ TQ w9 hQT.out RQ9.out (by omega) hTQb.2.1 hTQb.2.2
          rw [q3.out] at G3
          replace G3 := Lib.hid G3
          go_wp2_with fail
          refine G3.out.mono ?_
          rintro e w10 ⟨rfl, _, b10⟩
          simp only
          have B10 := Lib.hid (B9.out.trans (b10.mono B9.out.size))
          have R10 := Lib.hid (R9.out.below b10)
          have RQ10 := Lib.hid (RQ9.out.below b10)
          clear b10 G3 B9 R9 RQ9
          go_wp2_with (refine wpList_store_block rfl 22 (.tmp 21) (.tmp 139) rfl w10.heap.size 0 (bv mac) rfl rfl _ _ (heap_alloc_new _ _) (by rw [hbm.out]; decide) (by rw [hbm.out]; exact hinfo22) (bv_one _) ?_; intro w11 h11 F11; obtain ⟨k11, b11⟩ := alloc_store h11 F11 (by rw [hbm.out]; decide); have B11 := Lib.hid (B10.out.trans (b11.mono B10.out.size)); have R11 := Lib.hid (R10.out.below b11); have RQ11 := Lib.hid (RQ10.out.below b11); replace k11 := Lib.hid k11; clear h11 F11 b11 B10 R10 RQ10)
          have G4 := hfin_any (P ++ Q) AX cX T w11 hTl.out R11.out (by omega) hcX.1 hcX.2
          rw [q2.out] at G4
          replace G4 := Lib.hid G4
          refine G4.out.mono ?_
          rintro e w12 ⟨rfl, _, b12⟩
          simp only
          have B12 := Lib.hid (B11.out.trans (b12.mono B11.out.size))
          have RQ12 := Lib.hid (RQ11.out.below b12)
          have k12 := Lib.hid (heap_fr k11.out (Fr.of_below b12 NoS) (fun x => x))
          clear b12 G4 B11 R11 RQ11 k11
          go_wp2_with (refine wpList_store_block rfl 22 (.tmp 24) (.tmp 145) rfl w12.heap.size 0 (bv (List.replicate 32 0)) rfl rfl _ _ (heap_alloc_new _ _) (by decide) hinfo22 (bv_one _) ?_; intro w13 h13 F13; obtain ⟨_, b13⟩ := alloc_store h13 F13 (by decide); have B13 := Lib.hid (B12.out.trans (b13.mono B12.out.size)); have RQ13 := Lib.hid (RQ12.out.below b13); have k13 := Lib.hid (heap_fr k12.out (Fr.of_below b13 NoS) (fun x => x)); clear h13 F13 b13 B12 RQ12 k12)
          have G5 := hgetL_any Q XL cQ TQ w13 hQT.out RQ13.out (by omega) hTQb.2.1 hTQb.2.2
          rw [q4.out] at G5
          replace G5 := Lib.hid G5
          refine G5.out.mono ?_
          rintro e w14 ⟨LT, rfl, hl14, h114, _, b14⟩
          simp only
          have B14 := Lib.hid (B13.out.trans (b14.mono B13.out.size))
          have k14 := Lib.hid (heap_fr k13.out (Fr.of_below b14 NoS) (fun x => x))
          replace hl14 := Lib.hid hl14
          replace h114 := Lib.hid h114
          have HE2 := HE.out
          clear b14 G5 B13 RQ13 k13
          go_wp2_with (first
            | (refine wpList_store_block rfl 27 (.tmp 27) (.tmp 153) rfl w14.heap.size 0 LT rfl rfl _ _ (heap_alloc_new _ _) (by rw [hl14.out]; decide) (by rw [hl14.out]; exact hinfo27) h114.out ?_; intro w15 h15 F15; obtain ⟨_, b15⟩ := alloc_store h15 F15 (by rw [hl14.out]; decide); have B15 := Lib.hid (B14.out.trans (b15.mono B14.out.size)); have z15 := Lib.hid (range_of_block (heap_fr k14.out (Fr.of_below b15 NoS) (fun x => x))); have m15 := Lib.hid (range_of_block (heap_fr km.out (Fr.of_below B15.out NoS) (fun x => x))); clear h15 F15 b15 B14 k14)
            | (refine wpList_loadG rfl 22 (.tmp 21) rfl w10.heap.size 0 rfl (bv mac) _ z15.out Try.underlying22 rfl (by rw [hbm.out]; exact hinfo22) ?_)
            | (refine wpList_loadG rfl 22 (.tmp 8) rfl (w.heap.size + 1) 0 rfl (bv mac) _ m15.out Try.underlying22 rfl (by rw [hbm.out]; exact hinfo22) ?_))
          refine (awake_any _).mono ?_
          rintro e w16 ⟨rfl, b16⟩
          have B16 := Lib.hid (B15.out.trans (b16.mono B15.out.size))
          clear b16
          go_wp2_with fail
          go_ret
          exact ⟨rfl, BW.out.trans (B16.out.mono BW.out.size)⟩

set_option maxRecDepth 100000 in
set_option maxHeartbeats 2000000 in
theorem hjoins_any (r mac bh : List UInt8) (many : Int) (sv : Bool) (AB : Option Addr) (cB : Nat) (w : World) (hr : r.length = 32) (hmac : mac.length = 32) (hB : Rd w AB (bv bh)) (hc : bh.length ≤ 9223372036854775807) :
    Calls Try.prog 6 #[.agg (bv r).toArray, .int .i64 many, .bool sv, .agg (bv mac).toArray, .slice AB bh.length cB] w fun e w' => e = .returned (.bool true) ∧ Below w.heap.size w w' := by
  obtain ⟨nB, hn⟩ : ∃ nB, bh.length = nB := ⟨_, rfl⟩
  rw [hn] at hc ⊢
  by_cases h : nB ≤ 40
  · exact hjoins_in r mac bh many sv AB cB nB w hr hmac hn hB h
  · have b2 : decide ((40 : Int) < (nB : Int)) = true := decide_eq_true (by omega)
    clear hn hB hr hmac
    have HW : ∀ rA mA, Below w.heap.size w ((w.alloc (.cells rA 22)).alloc (.cells mA 22)) := fun rA mA => ((Below.refl _ w).alloc (Nat.le_refl _) _).alloc (by simp) _
    replace HW := Lib.hid HW
    obtain ⟨rA, hrA⟩ : ∃ rA, (bv r).toArray = rA := ⟨_, rfl⟩
    obtain ⟨mA, hmA⟩ : ∃ mA, (bv mac).toArray = mA := ⟨_, rfl⟩
    rw [hrA, hmA]
    clear hrA hmA
    go_enter Try.func6, Try.ntmps6
    go_wp2_with fail
    refine (awake_any _).mono ?_
    rintro e wf ⟨rfl, hbf⟩
    have B := (HW.out rA mA).trans (hbf.mono (HW.out rA mA).size)
    replace B := Lib.hid B
    clear hbf
    go_wp2_with fail
    go_ret
    exact ⟨rfl, B.out⟩
end Go.Proofs.Ytlepceajpgloeaa
