/- HelloCuts answers true at every input. -/
import Derived.Test.YtlepceajpgloeaaHlQ
namespace Go.Proofs.Ytlepceajpgloeaa
open Go.RowKit

def z32 : List UInt8 := List.replicate 32 0
theorem hz34_cs : hz34 = hcs false z32 none 0 0 := rfl

set_option maxRecDepth 100000 in
set_option maxHeartbeats 8000000 in
theorem hcuts_any (many cut long : Int) (kb : UInt8) (kv : Int) (hkv : (kb.toNat : Int) = kv) (w : World) :
    Calls Try.prog 7 #[.int .i64 many, .int .i64 cut, .int .u8 kv, .int .i64 long] w fun e w' => e = .returned (.bool true) ∧ Below w.heap.size w w' := by
  obtain ⟨m1, hm1, L1⟩ := low_ex many 4 (by omega) (by omega)
  obtain ⟨m, hm⟩ : ∃ m, 1 + m1 = m := ⟨_, rfl⟩
  have hmI : (1 : Int) + (m1 : Int) = (m : Int) := by omega
  have hm4 : 1 ≤ m ∧ m ≤ 4 := by omega
  obtain ⟨L, hL⟩ : ∃ L, 37 + 9 * m = L := ⟨_, rfl⟩
  obtain ⟨j, hj, L2⟩ := low_ex cut L (by omega) (by omega)
  obtain ⟨q, hq, L3⟩ := low_ex long 16776215 (by omega) (by omega)
  replace L1 := Lib.hid L1
  replace L2 := Lib.hid L2
  replace L3 := Lib.hid L3
  have HB := fun w => build27 w
  have hkv2 := Lib.hid hkv
  have hkb := UInt8.toNat_lt kb
  clear hm
  go_enter Try.func7, Try.ntmps7
  go_wp2_with (refine wpList_store_block rfl 27 (.tmp 9) (.tmp 28) rfl w.heap.size 0 hz34 rfl rfl _ _ (heap_alloc_new _ _) (by decide) hinfo27 hz34_one ?_; intro w1 h1 F1; obtain ⟨V1, B1⟩ := Hv.new (B := w.heap.size) (s := false) (r := z32) (A := none) (n := 0) (c := 0) (ids := []) (by decide) rfl (Ids.nil _ _) h1 F1; replace V1 := Lib.hid V1; replace B1 := Lib.hid B1; clear h1 F1)
  refine (L1.out _).mono ?_
  rintro e w' ⟨rfl, rfl⟩
  clear HB L1
  go_wp2_with fail
  go_loopw [10] (fun i wr => ∃ (k c : Nat) (A : Option Addr), k ≤ m ∧ i = .int .i64 k ∧ Hid (Hv w.heap.size wr w.heap.size false z32 A k c (gids 0 k) ∧ Below w.heap.size w wr)) (fun i _ => m - (intOf i).toNat)
  case atStart => exact ⟨0, 0, none, by omega, rfl, Lib.hid ⟨V1.out, B1.out⟩⟩
  case round =>
    clear V1 B1
    obtain ⟨k, c, A, hk, rfl, HS⟩ := hrel
    by_cases hkm : k < m
    · rename_i aa; clear aa
      have G1 := Lib.hid (grow_any 8 k)
      have cell0 := HS.out.1.c33
      have hlt := HS.out.1.lt
      have BA := Lib.hid (fun (W : World) (o : Obj) => ((Below.refl _ W).alloc (Nat.le_refl _) o : Below W.heap.size W (W.alloc o)))
      go_wp2_with fail
      go_region_law (first
        | (go_simp; go_at_call 18; refine (G1.out _ (by omega) (by omega)).mono ?_; rintro e w2 ⟨A1, k1, rfl, o1, b1⟩; have b2 : Below wr.heap.size wr w2 := (Still.drew wr).below.trans b1; have N2 := Lib.hid (HS.out.1.below b2); have BB2 := Lib.hid (HS.out.2.trans (b2.mono HS.out.2.size)); have O2 := Lib.hid (own_base (base2 := w.heap.size) o1 (fun q hq => Nat.le_trans HS.out.2.size (o1.lt q hq).1)); have cell1 := (b2.cell (p := ⟨w.heap.size, 33, none⟩) hlt).trans cell0; have cell1a := fun o => Lib.cell?_alloc_some o cell1; clear b2 b1 o1)
        | ((have PU := (N2.out.below (BA.out w2 (.cells #[.slice A1 8 k1] 24))).push (Nat.le_refl _) (BB2.out.trans ((BA.out w2 (.cells #[.slice A1 8 k1] 24)).mono BB2.out.size)) (id := growl 8 k) (by simp) (O2.out.alloc _)); obtain ⟨vs, hvs, hstep⟩ := PU; refine step_app rfl _ _ 23 rfl w.heap.size 24 (.slice none 0 0) 24 infoS Try.underlying23 rfl (.slice A k c) k vs rfl hvs (some ⟨w2.heap.size, 0, none⟩) 1 1 [.slice A1 8 k1] rfl rfl (Rd.fresh_mark w2 [.slice A1 8 k1] 24 (0, 0)) (by intro u hu; simp at hu; subst hu; rfl) (by unfold maxLen; omega) (by omega) (by have := N2.out.lt; simp; omega) ?_; intro A3 q3 w3 o3 g3 _; obtain ⟨cell3, fr3, NX⟩ := hstep w3 A3 q3 o3 g3; replace NX := Lib.hid NX; clear hvs hstep o3 g3))
      all_goals
        clear cell0 cell1 cell1a cell3 fr3
        go_wp2_with fail
        go_roundw
        case rel => exact ⟨k + 1, q3, A3, by omega, by go_num, Lib.hid ⟨by rw [gids_succ]; exact NX.out.1, NX.out.2⟩⟩
        case measure => simp [intOf]; omega
    · have hk' : k = m := by omega
      subst hk'
      have hids8 := gids_8 0 k
      have hidl := gids_len 0 k
      obtain ⟨ids, hids⟩ : ∃ ids, gids 0 k = ids := ⟨_, rfl⟩
      rw [hids] at HS hids8 hidl
      obtain ⟨P, hP⟩ : ∃ P, hpiece 1 (hbod z32 ids) = P := ⟨_, rfl⟩
      have hPl : P.length = L := by rw [← hP, hpiece_length, hbod_length z32 ids rfl hids8, hidl]; omega
      have PU := hput_any false z32 ids A k c wr rfl hidl HS.out.1.id.rd (by omega)
      rw [hput_ok false z32 ids hids8 (by omega) (by omega), if_neg (by simp), hP] at PU
      unfold RetP at PU
      simp only [hPl] at PU
      have q1 := hget_cut false z32 ids rfl hids8 (by omega) j (by omega)
      rw [if_neg (by simp), hP] at q1
      have q2 := hget_d37 z32 ids rfl hids8 (by omega) (by omega)
      rw [hP] at q2
      have q3 : hget (P.set 0 kb) = if kb = 1 ∨ kb = 2 then (⟨decide (kb = 2), z32, ids⟩, (L : Int), 0) else (hzero, 0, 6) := by
        rw [← hP, hpiece_set0]
        by_cases h1 : kb = 1
        · subst h1
          have := hget_piece false z32 ids [] rfl hids8 (by omega) (by omega)
          rw [if_neg (by simp), List.append_nil] at this
          rw [this, if_pos (.inl rfl), hidl, hL]; rfl
        · by_cases h2 : kb = 2
          · subst h2
            have := hget_piece true z32 ids [] rfl hids8 (by omega) (by omega)
            rw [if_pos rfl, List.append_nil] at this
            rw [this, if_pos (.inr rfl), hidl, hL]; rfl
          · have := hget_other kb z32 ids rfl hids8 (by omega) (by omega) [] h1 h2
            rw [List.append_nil] at this
            rw [this, if_neg (by rintro (h | h); exact h1 h; exact h2 h)]
      have hP0 : P.getD 0 0 = 1 := by rw [← hP]; rfl
      have hLN : (L : Int) = 37 + 9 * (k : Int) := by omega
      have e9 : ((L : Int) != 37 + 9 * (k : Int)) = false := by rw [bne_eq_false_iff_eq]; exact hLN
      have LS1 : (hcs false z32 A k c).length = 34 := hcl_len _ _ _ _ _ rfl
      have LS2 := hcl_one false z32 A k c
      have R0 := HS.out.1.range
      have HBw := Lib.hid HS.out.2
      obtain ⟨LS, hLS⟩ : ∃ LS, hcs false z32 A k c = LS := ⟨_, rfl⟩
      rw [← hcs_arr, hLS] at PU
      rw [hLS] at R0 LS1
      have LS3 : ∀ u ∈ LS, u.oneCell' = true := by rw [← hLS]; exact LS2
      have PUh := Lib.hid PU
      replace q1 := Lib.hid q1
      replace q2 := Lib.hid q2
      replace q3 := Lib.hid q3
      replace hP := Lib.hid hP
      replace hP0 := Lib.hid hP0
      replace hPl := Lib.hid hPl
      have hLb : L ≤ 73 ∧ 46 ≤ L := by omega
      replace hL := Lib.hid hL
      replace hids := Lib.hid hids
      replace hids8 := Lib.hid hids8
      replace hidl := Lib.hid hidl
      replace LS1 := Lib.hid LS1
      replace LS3 := Lib.hid LS3
      replace R0 := Lib.hid R0
      replace hLS := Lib.hid hLS
      replace hLN := Lib.hid hLN
      clear PU LS2 HS hkm
      go_wp2_with (refine wpList_load_mid rfl 27 (.tmp 9) rfl w.heap.size 0 rfl LS _ R0.out Try.underlying27 rfl (by rw [LS1.out]; exact hinfo27) ?_)
      refine PUh.out.mono ?_
      rintro e w2 ⟨Ab, cb, rfl, ob, b2⟩
      have B2 := Lib.hid (HBw.out.trans (b2.mono HBw.out.size))
      have R2 := Lib.hid (Rd.of_own ob)
      have hcb := RetS.cap ob
      clear ob b2 PUh R0 LS1 LS3 hLS HBw
      go_wp2_with fail
      refine (L2.out _).mono ?_
      rintro e w' ⟨rfl, rfl⟩
      have HC := cut_h (P := Try.prog) Try.underlying24 infoB Ab L cb j (by omega)
      have hTk : Hid ((P.take j).length = j) := Lib.hid (by rw [List.length_take, hPl.out]; omega)
      have R2t := Lib.hid (R2.out.take_bytes j)
      go_wp2_with (at_builtin; refine Hid.out ?_)
      refine Lib.hid ?_
      refine wpList_app _ rfl _ _ 24 rfl w2.heap.size 5 (.int .u8 0) 1 infoB Try.underlying24 rfl (.slice none 0 0) 0 [] rfl (World.ownsRow_nil _ _ _ _) Ab j cb (bv (P.take j)) rfl (by rw [bv_length]; exact hTk.out) R2t.out (bv_one _) (by unfold maxLen; omega) (by omega) (Nat.le_refl _) ?_
      intro A6 c6 w6 o6 g6 _
      simp only [Nat.zero_add, List.nil_append] at o6 ⊢
      have b6 := (Below.refl _ w2).grown g6 (Nat.le_refl _) (fun q hq => by simp [Value.ownBlock] at hq)
      have B6 := Lib.hid (B2.out.trans (b6.mono B2.out.size))
      have R6 := Lib.hid (R2.out.below b6)
      have hc6 := RetS.cap o6
      have G1 := hgetL_any (P.take j) A6 c6 j w6 hTk.out (Rd.of_own o6) (by omega) hc6.1 hc6.2
      rw [q1.out] at G1
      replace G1 := Lib.hid G1
      clear o6 g6 b6 HC B2 R2 R2t L2
      go_wp2_with fail
      refine G1.out.mono ?_
      rintro e w7 ⟨LS, rfl, hl7, h17, _, b7⟩
      simp only
      have B7 := Lib.hid (B6.out.trans (b7.mono B6.out.size))
      have R7 := Lib.hid (R6.out.below b7)
      replace hl7 := Lib.hid hl7
      replace h17 := Lib.hid h17
      clear b7 G1 B6 R6
      go_wp2_with (first | (refine wpList_store_block rfl 27 (.tmp 13) (.tmp 68) rfl w7.heap.size 0 LS rfl rfl _ _ (heap_alloc_new _ _) (by rw [hl7.out]; decide) (by rw [hl7.out]; exact hinfo27) h17.out ?_; intro w8 h8 F8; obtain ⟨_, b8⟩ := alloc_store h8 F8 (by rw [hl7.out]; decide); have B8 := Lib.hid (B7.out.trans (b8.mono B7.out.size)); have R8 := Lib.hid (R7.out.below b8); clear h8 F8 b8 B7 R7) | (at_builtin; refine Hid.out ?_))
      refine Lib.hid ?_
      refine wpList_app _ rfl _ _ 24 rfl w8.heap.size 5 (.int .u8 0) 1 infoB Try.underlying24 rfl (.slice none 0 0) 0 [] rfl (World.ownsRow_nil _ _ _ _) Ab L cb (bv P) rfl (by rw [bv_length]; exact hPl.out) R8.out (bv_one _) (by unfold maxLen; omega) (by omega) (Nat.le_refl _) ?_
      intro A9 c9 w9 o9 g9 _
      simp only [Nat.zero_add, List.nil_append] at o9 ⊢
      have b9 := (Below.refl _ w8).grown g9 (Nat.le_refl _) (fun q hq => by simp [Value.ownBlock] at hq)
      have hc9 := RetS.cap o9
      obtain ⟨p9, hp9, hp9l⟩ : ∃ g, A9 = some ⟨g, 0, none⟩ ∧ w8.heap.size ≤ g := by
        rcases own_cases o9 with ⟨_, h, _⟩ | ⟨g, h1, h2, _⟩
        · omega
        · exact ⟨g, h1, h2⟩
      subst hp9
      have d0 := o9.cellAt 0 (by omega)
      rw [bv_get (k := 0) (by rw [hPl.out]; omega)] at d0
      have f0 := o9.frozenAt 0
      have st := (o9.stored 0 (.int .u8 kv)).1
      have hset : (bv P).set 0 (.int .u8 kv) = bv (P.set 0 kb) := by rw [← hkv2.out]; simp [bv, List.map_set]
      rw [hset] at st
      have b9s := b9.setCell (show w8.heap.size ≤ (⟨p9, 0, none⟩ : Addr).block from hp9l) (.int .u8 kv)
      have B9 := Lib.hid (B8.out.trans (b9s.mono B8.out.size))
      have R9 := Lib.hid (R8.out.below b9s)
      have G2 := hgetL_any (P.set 0 kb) (some ⟨p9, 0, none⟩) c9 L _ (by rw [List.length_set]; exact hPl.out) (Rd.of_own st) (by omega) hc9.1 hc9.2
      replace G2 := Lib.hid G2
      have hI0 : (0 : Int) < (L : Int) := by omega
      clear o9 g9 b9 b9s st hset B8 R8
      go_wp2_with fail
      clear d0 f0
      obtain ⟨wA, hwA⟩ : ∃ wA, w9.setCell ⟨p9, 0, none⟩ (.int .u8 kv) = wA := ⟨_, rfl⟩
      rw [hwA] at G2 B9 R9 ⊢
      clear hwA hI0
      obtain ⟨N, hN⟩ : ∃ N, 1001 + q = N := ⟨_, rfl⟩
      have hNI : (1001 : Int) + (q : Int) = (N : Int) := by omega
      have hNb : 1001 ≤ N ∧ N < 16777216 := by omega
      have hP4 : 4 ≤ P.length := by rw [hPl.out]; omega
      have q4 := hkind_long (P.set 37 9) (UInt8.ofNat (N / 65536)) (UInt8.ofNat (N / 256)) (UInt8.ofNat N) (by rw [List.length_set]; exact hP4) (by rw [List.getD_eq_getElem?_getD, List.getElem?_set_ne (by omega), ← List.getD_eq_getElem?_getD]; exact hP0.out) (by simp only [UInt8.toNat_ofNat']; omega)
      have u1 := u8val (N / 65536)
      have u2 := u8val (N / 256)
      have u3 := u8val N
      obtain ⟨x1, hx1⟩ : ∃ x, UInt8.ofNat (N / 65536) = x := ⟨_, rfl⟩
      obtain ⟨x2, hx2⟩ : ∃ x, UInt8.ofNat (N / 256) = x := ⟨_, rfl⟩
      obtain ⟨x3, hx3⟩ : ∃ x, UInt8.ofNat N = x := ⟨_, rfl⟩
      rw [hx1] at u1 q4
      rw [hx2] at u2 q4
      rw [hx3] at u3 q4
      obtain ⟨y1, hy1⟩ : ∃ y : Int, (x1.toNat : Int) = y := ⟨_, rfl⟩
      obtain ⟨y2, hy2⟩ : ∃ y : Int, (x2.toNat : Int) = y := ⟨_, rfl⟩
      obtain ⟨y3, hy3⟩ : ∃ y : Int, (x3.toNat : Int) = y := ⟨_, rfl⟩
      have v1 : (N : Int) / 65536 = y1 := by omega
      have v2 : (N : Int) / 256 % 256 = y2 := by omega
      have v3 : (N : Int) % 256 = y3 := by omega
      have HD : Hid (∀ (W : World) (g c : Nat), W.ownsRow 0 5 1 (.slice (some ⟨g, 0, none⟩) L c) L (bv (P.set 37 9)) →
          W.cell? ⟨g, 1, none⟩ = some (.int .u8 (((P.set 37 9).getD 1 0).toNat : Int)) ∧ W.frozen? ⟨g, 1, none⟩ = false ∧
          ∀ W2, W2 = W.setCell ⟨g, 1, none⟩ (.int .u8 y1) → W2.cell? ⟨g, 2, none⟩ = some (.int .u8 (((P.set 37 9).getD 2 0).toNat : Int)) ∧ W2.frozen? ⟨g, 2, none⟩ = false ∧
          ∀ W3, W3 = W2.setCell ⟨g, 2, none⟩ (.int .u8 y2) → W3.cell? ⟨g, 3, none⟩ = some (.int .u8 (((P.set 37 9).getD 3 0).toNat : Int)) ∧ W3.frozen? ⟨g, 3, none⟩ = false ∧
          ∀ W4, W4 = W3.setCell ⟨g, 3, none⟩ (.int .u8 y3) → Rd W4 (some ⟨g, 0, none⟩) (bv ((((P.set 37 9).set 1 x1).set 2 x2).set 3 x3))) := Lib.hid (fun W g c o => by
        have hb : ∀ k, k < L → (bv (P.set 37 9))[k]? = some (.int .u8 (((P.set 37 9).getD k 0).toNat : Int)) := fun k hk => by
          rw [bv_get (by rw [List.length_set, hPl.out]; exact hk), List.getD_eq_getElem?_getD, List.getElem?_eq_getElem (by rw [List.length_set, hPl.out]; exact hk)]; rfl
        have s1 := (o.stored 1 (.int .u8 y1)).1
        have s2 := (s1.stored 2 (.int .u8 y2)).1
        have s3 := (s2.stored 3 (.int .u8 y3)).1
        refine ⟨(o.cellAt 1 (by omega)).trans (hb 1 (by omega)), o.frozenAt 1, fun W2 h2 => ?_⟩
        subst h2
        refine ⟨(s1.cellAt 2 (by omega)).trans ?_, s1.frozenAt 2, fun W3 h3 => ?_⟩
        · rw [List.getElem?_set_ne (by omega)]; exact hb 2 (by omega)
        subst h3
        refine ⟨(s2.cellAt 3 (by omega)).trans ?_, s2.frozenAt 3, fun W4 h4 => ?_⟩
        · rw [List.getElem?_set_ne (by omega), List.getElem?_set_ne (by omega)]; exact hb 3 (by omega)
        subst h4
        have := Rd.of_own s3
        have e : (((bv (P.set 37 9)).set 1 (.int .u8 y1)).set 2 (.int .u8 y2)).set 3 (.int .u8 y3) = bv ((((P.set 37 9).set 1 x1).set 2 x2).set 3 x3) := by
          rw [← hy1, ← hy2, ← hy3]; simp [bv, List.map_set]
        rw [e] at this
        exact this)
      replace q4 := Lib.hid q4
      replace v1 := Lib.hid v1
      replace v2 := Lib.hid v2
      replace v3 := Lib.hid v3
      replace hNI := Lib.hid hNI
      replace hP4 := Lib.hid hP4
      clear hN u1 u2 u3 hx1 hx2 hx3 hy1 hy2 hy3
      have hcase : (kv = 1 ∧ hget (P.set 0 kb) = (⟨false, z32, ids⟩, (L : Int), 0)) ∨ (kv = 2 ∧ hget (P.set 0 kb) = (⟨true, z32, ids⟩, (L : Int), 0)) ∨ ((kv == 1) = false ∧ (kv == 2) = false ∧ hget (P.set 0 kb) = (hzero, 0, 6)) := by
        have hkv3 := hkv2.out
        have hq3 := q3.out
        by_cases h1 : kb = 1
        · subst h1; left; exact ⟨hkv3.symm, by rw [hq3, if_pos (.inl rfl)]; rfl⟩
        · by_cases h2 : kb = 2
          · subst h2; right; left; exact ⟨hkv3.symm, by rw [hq3, if_pos (.inr rfl)]; rfl⟩
          · right; right
            refine ⟨?_, ?_, by rw [hq3, if_neg (by rintro (h | h); exact h1 h; exact h2 h)]⟩
            · rw [beq_eq_false_iff_ne, ← hkv3]; intro e; exact h1 (UInt8.toNat_inj.1 (by exact_mod_cast e))
            · rw [beq_eq_false_iff_ne, ← hkv3]; intro e; exact h2 (UInt8.toNat_inj.1 (by exact_mod_cast e))
      clear q3 hkv2 hkb
      rcases hcase with ⟨rfl, q5⟩ | ⟨rfl, q5⟩ | ⟨f1, f2, q5⟩
      all_goals
        rw [q5] at G2
        clear q5
        refine G2.out.mono ?_
        rintro e w10 ⟨LT, rfl, hl10, h110, hc10, b10⟩
        simp only at hc10 ⊢
        have B10 := Lib.hid (B9.out.trans (b10.mono B9.out.size))
        have R10 := Lib.hid (R9.out.below b10)
        replace hl10 := Lib.hid hl10
        replace h110 := Lib.hid h110
        replace hc10 := Lib.hid hc10
        clear b10 G2 B9 R9
        go_wp2_with (first | (refine wpList_store_block rfl 27 (.tmp 17) (.tmp 79) rfl w10.heap.size 0 LT rfl rfl _ _ (heap_alloc_new _ _) (by rw [hl10.out]; decide) (by rw [hl10.out]; exact hinfo27) h110.out ?_; intro w11 h11 F11; obtain ⟨k11, b11⟩ := alloc_store h11 F11 (by rw [hl10.out]; decide); have B11 := Lib.hid (B10.out.trans (b11.mono B10.out.size)); have R11 := Lib.hid (R10.out.below b11); replace k11 := Lib.hid k11; clear h11 F11 b11 B10 R10) | (at_builtin; refine Hid.out ?_))
        refine Lib.hid ?_
        refine wpList_app _ rfl _ _ 24 rfl w11.heap.size 5 (.int .u8 0) 1 infoB Try.underlying24 rfl (.slice none 0 0) 0 [] rfl (World.ownsRow_nil _ _ _ _) Ab L cb (bv P) rfl (by rw [bv_length]; exact hPl.out) R11.out (bv_one _) (by unfold maxLen; omega) (by omega) (Nat.le_refl _) ?_
        intro AD cD w12 oD gD _
        simp only [Nat.zero_add, List.nil_append] at oD ⊢
        have b12 := (Below.refl _ w11).grown gD (Nat.le_refl _) (fun q hq => by simp [Value.ownBlock] at hq)
        have hcD := RetS.cap oD
        obtain ⟨pD, hpD, hpDl⟩ : ∃ g, AD = some ⟨g, 0, none⟩ ∧ w11.heap.size ≤ g := by
          rcases own_cases oD with ⟨_, h, _⟩ | ⟨g, h1, h2, _⟩
          · omega
          · exact ⟨g, h1, h2⟩
        subst hpD
        have d37 := oD.cellAt 37 (by omega)
        rw [bv_get (k := 37) (by rw [hPl.out]; omega)] at d37
        have f37 := oD.frozenAt 37
        have st := (oD.stored 37 (.int .u8 9)).1
        have hset : (bv P).set 37 (.int .u8 9) = bv (P.set 37 9) := by simp [bv, List.map_set]
        rw [hset] at st
        have b12s := b12.setCell (show w11.heap.size ≤ (⟨pD, 37, none⟩ : Addr).block from hpDl) (.int .u8 9)
        have B12 := Lib.hid (B11.out.trans (b12s.mono B11.out.size))
        have k12 := Lib.hid (heap_fr k11.out (Fr.of_below b12s NoS) (fun x => x))
        have hI37 : (37 : Int) < (L : Int) := by omega
        replace st := Lib.hid st
        have hpDw : w.heap.size ≤ pD := Nat.le_trans B11.out.size hpDl
        have hpD11 : w10.heap.size < pD := by have := heap_lt k11.out; omega
        clear oD gD b12 b12s hset B11 k11 R11
        go_wp2_with fail
        clear d37 f37
        obtain ⟨wB, hwB⟩ : ∃ wB, w12.setCell ⟨pD, 37, none⟩ (.int .u8 9) = wB := ⟨_, rfl⟩
        rw [hwB] at B12 k12 st ⊢
        clear hwB
        have G3 := hgetL_any (P.set 37 9) (some ⟨pD, 0, none⟩) cD L wB (by rw [List.length_set]; exact hPl.out) (Rd.of_own st.out) (by omega) hcD.1 hcD.2
        rw [q2.out] at G3
        refine G3.mono ?_
        rintro e w13 ⟨LU, rfl, hl13, h113, _, b13⟩
        simp only
        have B13 := Lib.hid (B12.out.trans (b13.mono B12.out.size))
        have k13 := Lib.hid (heap_fr k12.out (Fr.of_below b13 NoS) (fun x => x))
        have st13 := Lib.hid (own_fr st.out (Fr.of_below b13 NoS) (fun _ _ x => x))
        replace hl13 := Lib.hid hl13
        replace h113 := Lib.hid h113
        clear b13 G3 B12 k12 st
        go_wp2_with (refine wpList_store_block rfl 27 (.tmp 22) (.tmp 95) rfl w13.heap.size 0 LU rfl rfl _ _ (heap_alloc_new _ _) (by rw [hl13.out]; decide) (by rw [hl13.out]; exact hinfo27) h113.out ?_; intro w14 h14 F14; obtain ⟨_, b14⟩ := alloc_store h14 F14 (by rw [hl13.out]; decide); have B14 := Lib.hid (B13.out.trans (b14.mono B13.out.size)); have k14 := Lib.hid (heap_fr k13.out (Fr.of_below b14 NoS) (fun x => x)); have st14 := Lib.hid (own_fr st13.out (Fr.of_below b14 NoS) (fun _ _ x => x)); clear h14 F14 b14 B13 k13 st13)
        refine (L3.out _).mono ?_
        rintro e w' ⟨rfl, rfl⟩
        have hNI' := hNI.out
        have v1' := v1.out
        have v2' := v2.out
        have v3' := v3.out
        obtain ⟨d1, f1', HD2⟩ := HD.out w14 pD cD (own_base st14.out (fun _ _ => Nat.zero_le _))
        obtain ⟨d2, f2', HD3⟩ := HD2 _ rfl
        obtain ⟨d3, f3', HD4⟩ := HD3 _ rfl
        have R16 := HD4 _ rfl
        clear HD2 HD3 HD4
        have FF : Fr (fun k => k = pD) w14 (((w14.setCell ⟨pD, 1, none⟩ (.int .u8 y1)).setCell ⟨pD, 2, none⟩ (.int .u8 y2)).setCell ⟨pD, 3, none⟩ (.int .u8 y3)) := (((Fr.refl (fun k => k = pD) w14).setCell (p := ⟨pD, 1, none⟩) (fun _ => rfl) _).setCell (p := ⟨pD, 2, none⟩) (fun _ => rfl) _).setCell (p := ⟨pD, 3, none⟩) (fun _ => rfl) _
        have B16 := Lib.hid (Fr.under B14.out B14.out.size FF (fun k hk _ => by omega))
        have k16 := Lib.hid (heap_fr k14.out FF (by omega))
        replace R16 := Lib.hid R16
        clear FF B14 k14 st14 HD
        have hI1 : (1 : Int) < (L : Int) := by omega
        have hI2 : (2 : Int) < (L : Int) := by omega
        have hI3 : (3 : Int) < (L : Int) := by omega
        go_wp2_with fail
        clear d1 d2 d3 f1' f2' f3' v1' v2' v3'
        obtain ⟨wC, hwC⟩ : ∃ wC, ((w14.setCell ⟨pD, 1, none⟩ (.int .u8 y1)).setCell ⟨pD, 2, none⟩ (.int .u8 y2)).setCell ⟨pD, 3, none⟩ (.int .u8 y3) = wC := ⟨_, rfl⟩
        rw [hwC] at B16 k16 R16 ⊢
        clear hwC
        have K4 := hkind_any ((((P.set 37 9).set 1 x1).set 2 x2).set 3 x3) (some ⟨pD, 0, none⟩) cD L wC (by simp only [List.length_set]; exact hPl.out) R16.out (by omega)
        rw [q4.out] at K4
        refine K4.mono ?_
        rintro e w17 ⟨rfl, ST⟩
        simp only [t3]
        have B17 := Lib.hid (B16.out.trans (ST.below.mono B16.out.size))
        have k17 : w17.heap[w10.heap.size]? = _ := heap_fr k16.out (ST.fr NoS) (fun x => x)
        have c17 := wrote_cell k17 0 _ hc10.out
        clear K4 ST B16 k16 R16 k17
        go_wp2_with fail
        refine (awake_any _).mono ?_
        rintro e w18 ⟨rfl, b18⟩
        have B18 := Lib.hid (B17.out.trans (b18.mono B17.out.size))
        clear b18
        go_wp2_with fail
        go_ret
        exact ⟨rfl, B18.out⟩
end Go.Proofs.Ytlepceajpgloeaa
