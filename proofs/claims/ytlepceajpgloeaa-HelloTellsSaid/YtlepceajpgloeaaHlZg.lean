/- hello: the document's own Get answers as the program's. -/
import Derived.Test.YtlepceajpgloeaaHlZf
namespace Go.Proofs.Ytlepceajpgloeaa
open Go.RowKit

set_option maxRecDepth 100000 in
set_option maxHeartbeats 2000000 in
theorem rget_any (l : List UInt8) (A0 : Option Addr) (c0 n0 : Nat) (w0 : World) (hn : l.length = n0) (hr : Rd w0 A0 (bv l)) (hl : n0 ≤ 1000000) (hc : n0 ≤ c0) (hcc : c0 ≤ 9223372036854775807) :
    Calls Try.prog 26 #[.slice A0 n0 c0] w0 (RetH w0 (hget l)) := by
  obtain ⟨V, hV⟩ : ∃ V, hget l = V := ⟨_, rfl⟩
  obtain ⟨g, hg⟩ : ∃ g, w0.heap.size = g := ⟨_, rfl⟩
  have hAlt : ∀ a, A0 = some a → 0 < n0 → a.block < w0.heap.size := fun a ha hp => by
    obtain ⟨a', e, h⟩ := hr.lt (by rw [bv_length]; omega)
    rw [ha] at e; injection e with e; subst e; exact h
  rw [hV]
  have HV : Hid (V = hget l) := Lib.hid hV.symm
  have HO : Hid (∀ w3, w3 = w0.alloc (.cells hz34.toArray 32) → w3.heap[g]? = some (.cells hz34.toArray 32 (0, 0)) ∧ Below g w0 w3 ∧ w3.heap.size = g + 1) := Lib.hid (fun w3 hw3 => by
    have a1 := heap_alloc_new w0 (.cells hz34.toArray 32)
    subst hw3
    rw [hg] at a1
    exact ⟨a1, (Below.refl _ w0).alloc (by rw [hg]; exact Nat.le_refl _) _, by simp [hg]⟩)
  replace hV := Lib.hid hV
  replace hg := Lib.hid hg
  have KB := Lib.hid (fun W (h1 : Rd W A0 (bv l)) => rbody_any l 1 2 A0 c0 n0 W hn h1 hl hc hcc)
  replace hr := Lib.hid hr
  replace hn := Lib.hid hn
  replace hAlt := Lib.hid hAlt
  have HZ := fun w => build32z w
  go_enter Try.func26, Try.ntmps26
  go_wp2_with fail
  have hgo := hg.out
  simp only [hgo]
  change Calls _ _ #[.slice A0 n0 c0, .int .i64 1, .int .i64 2] (w0.alloc (.cells hz34.toArray 32)) _
  have K0 := HO.out _ rfl
  obtain ⟨w3, hw3⟩ : ∃ w3, w0.alloc (.cells hz34.toArray 32) = w3 := ⟨_, rfl⟩
  rw [hw3] at K0 ⊢
  clear hw3 HO hgo
  obtain ⟨z3, b3, s3⟩ := K0
  have R3 : Rd w3 A0 (bv l) := hr.out.below (by have := b3; rw [← hg.out] at this; exact this)
  have KC := KB.out w3 R3
  obtain ⟨e1, e2, e3, e4⟩ := rb_eq l 1 2 [1, 2] ks12
  have hfst := hbody_first l [1, 2]
  unfold hget at HV
  obtain ⟨⟨kd, ys, eb⟩, hq⟩ : ∃ q, hbody l [1, 2] = q := ⟨_, rfl⟩
  obtain ⟨⟨xs, L, ev⟩, hp⟩ : ∃ q, rbody l 1 2 = q := ⟨_, rfl⟩
  rw [hq] at HV e1 e2 e3 e4 hfst
  rw [hp] at KC e1 e2 e3 e4
  simp only at HV e1 e2 e3 e4 hfst
  subst e1 e2
  clear hq hp KB e4
  replace z3 := Lib.hid z3
  replace b3 := Lib.hid b3
  replace s3 := Lib.hid s3
  replace R3 := Lib.hid R3
  replace e3 := Lib.hid e3
  replace hfst := Lib.hid hfst
  refine KC.mono ?_
  rintro e w4 ⟨X, c1, n1, rfl, hlen, hnc, hcc1, hn1000, RX, hblk, ST⟩
  simp only at hlen RX
  have z4 := Lib.hid (by rw [ST.heap]; exact z3.out : w4.heap[g]? = some (.cells hz34.toArray 32 (0, 0)))
  have b4 := Lib.hid (b3.out.trans (ST.below.mono (by have := heap_lt z3.out; omega)))
  have s4 := Lib.hid (by rw [ST.heap]; exact s3.out : w4.heap.size = g + 1)
  have R4 := Lib.hid (ST.rd R3.out)
  have hglt := heap_lt z4.out
  clear KC ST z3 b3 s3 R3
  replace hcc1 : c1 ≤ 9223372036854775807 := Nat.le_trans hcc1 hcc
  -- what is told where something is wrong
  have HBAD : Hid (∀ v : Int, V = (hzero, 0, v) → ∀ (W : World), Below g w0 W → g < W.heap.size → ∀ w2 : World, w2.heap[g]? = some (.cells (over hz34.toArray 0 hz34) 32 (0, 0)) → Fr (fun k => k = g) W w2 → w2.heap[g]? = some (.cells hz34.toArray 32 (0, 0)) ∧ RetH w0 V (.returned (.tuple #[.agg hz34.toArray, .int .i64 0, .int .i64 v])) w2) := Lib.hid (fun v hv W bW hW w2 h2 F2 => by
    rw [over_full hz34 _ hz34_size] at h2
    exact ⟨h2, retH_zero hv hg.out.symm (bel_at bW (Nat.le_of_lt hW) (Nat.le_refl _) F2)⟩)
  by_cases he : ev = 0
  · subst he
    replace HV := HV.out
    rw [if_neg (by simp)] at HV
    by_cases h33 : n1 < 33
    · have d1 : decide ((n1 : Int) < 33) = true := decide_eq_true (by omega)
      have d1' : decide (n1 < 33) = true := decide_eq_true h33
      rw [hlen, if_pos h33] at HV
      replace HV := Lib.hid HV
      replace hlen := Lib.hid hlen
      replace RX := Lib.hid RX
      replace hblk := Lib.hid hblk
      go_wp2_with (refine wpList_store_block rfl 32 (.tmp 2) (.tmp 47) rfl g 0 hz34 rfl rfl hz34.toArray _ z4.out (Nat.le_of_eq hz34_size.symm) hinfo32 hz34_one ?_; intro w2 h2 F2; have HF2 := Lib.hid (HBAD.out 5 HV.out w4 b4.out hglt w2 h2 F2); clear h2 F2)
      exact bodyPost_ret (results_cell3 Try.results26 _ w2 g 32 hz34.toArray _ rfl HF2.out.1 Try.underlying32 rfl hinfo32) rfl HF2.out.2
    · have d1 : decide ((n1 : Int) < 33) = false := decide_eq_false (by omega)
      have d1' : decide (n1 < 33) = false := decide_eq_false h33
      rw [hlen, if_neg h33] at HV
      obtain ⟨hkd, hl4⟩ := hfst.out rfl
      obtain ⟨hL, -⟩ := e3.out rfl
      rw [hlen] at hL
      obtain ⟨b, off, rfl, gm⟩ := RX.at_ (k := 32) (by rw [bv_length, hlen]; omega)
      have hgb : b < g := by
        obtain ⟨a0, q1, q2⟩ := hblk _ rfl
        have := hAlt.out a0 q1 (by have := hn.out; omega)
        rw [hg.out] at this
        simp only at q2
        omega
      have hxb : Hid (∀ a : Addr, some (⟨b, off, none⟩ : Addr) = some a → a.block < g) := Lib.hid (fun a ha => by injection ha with ha; subst ha; exact hgb)
      have gm2 : w4.cell? ⟨b, off + 32, none⟩ = some (.int .u8 ((xs.getD 32 0).toNat : Int)) := by
        rw [gm, ← Option.some_inj.2 (rfl : (bv xs)[32]'(by rw [bv_length, hlen]; omega) = _)]
        simp [bv, List.getD_eq_getElem?_getD, List.getElem?_eq_getElem (by rw [hlen]; omega : 32 < xs.length)]
      obtain ⟨q, hq⟩ : ∃ q, (xs.getD 32 0).toNat = q := ⟨_, rfl⟩
      have hqb : q ≤ 255 := by have := UInt8.toNat_lt (xs.getD 32 0); omega
      rw [hq] at gm2 HV
      replace hq := Lib.hid hq
      replace hblk := Lib.hid hblk
      replace RX := Lib.hid RX
      have i32 : (32 : Int) < (n1 : Int) := by omega
      clear gm
      by_cases hq1 : q < 1
      · have d2 : decide ((q : Int) < 1) = true := decide_eq_true (by omega)
        have d2' : decide (q < 1) = true := decide_eq_true hq1
        have hv : Hid (V = (hzero, 0, 5)) := Lib.hid (by rw [HV, if_pos (.inl hq1)])
        replace hlen := Lib.hid hlen
        clear HV hkd hL
        go_wp2_with (refine wpList_store_block rfl 32 (.tmp 2) (.tmp 47) rfl g 0 hz34 rfl rfl hz34.toArray _ z4.out (Nat.le_of_eq hz34_size.symm) hinfo32 hz34_one ?_; intro w2 h2 F2; have HF2 := Lib.hid (HBAD.out 5 hv.out w4 b4.out hglt w2 h2 F2); clear h2 F2)
        exact bodyPost_ret (results_cell3 Try.results26 _ w2 g 32 hz34.toArray _ rfl HF2.out.1 Try.underlying32 rfl hinfo32) rfl HF2.out.2
      · have d2 : decide ((q : Int) < 1) = false := decide_eq_false (by omega)
        have d2' : decide (q < 1) = false := decide_eq_false hq1
        by_cases hq4 : 4 < q
        · have d3 : decide (4 < (q : Int)) = true := decide_eq_true (by omega)
          have d3' : decide (4 < q) = true := decide_eq_true hq4
          have hv : Hid (V = (hzero, 0, 5)) := Lib.hid (by rw [HV, if_pos (.inr hq4)])
          replace hlen := Lib.hid hlen
          clear HV hkd hL
          go_wp2_with (refine wpList_store_block rfl 32 (.tmp 2) (.tmp 47) rfl g 0 hz34 rfl rfl hz34.toArray _ z4.out (Nat.le_of_eq hz34_size.symm) hinfo32 hz34_one ?_; intro w2 h2 F2; have HF2 := Lib.hid (HBAD.out 5 hv.out w4 b4.out hglt w2 h2 F2); clear h2 F2)
          exact bodyPost_ret (results_cell3 Try.results26 _ w2 g 32 hz34.toArray _ rfl HF2.out.1 Try.underlying32 rfl hinfo32) rfl HF2.out.2
        · have d3 : decide (4 < (q : Int)) = false := decide_eq_false (by omega)
          have d3' : decide (4 < q) = false := decide_eq_false hq4
          rw [if_neg (by omega)] at HV
          have hqI : (q : Int) ≤ 4 := by omega
          obtain ⟨m, hm⟩ : ∃ m, 33 + 9 * q = m := ⟨_, rfl⟩
          obtain ⟨q9, hq9⟩ : ∃ q9, 9 * q = q9 := ⟨_, rfl⟩
          have hm1 : 9 * (q : Int) = (q9 : Int) := by omega
          have hm2 : 33 + (q9 : Int) = (m : Int) := by omega
          have hq9b : (q9 : Int) ≤ 36 := by omega
          have hmb : (m : Int) ≤ 69 := by omega
          by_cases hnm : n1 = m
          · have d4 : ((n1 : Int) != (m : Int)) = false := by rw [hnm]; simp
            have hlm : xs.length = 33 + 9 * q := by omega
            obtain ⟨s, hs⟩ : ∃ s, (kd == 2) = s := ⟨_, rfl⟩
            obtain ⟨r, hr8⟩ : ∃ r, xs.take 32 = r := ⟨_, rfl⟩
            have hr32 : r.length = 32 := by rw [← hr8, List.length_take, hlen]; omega
            have H0 : Hid (V = hfin s r (4 + n1) (hgl (q - 0) (xs.drop (33 + 9 * 0)) [])) := Lib.hid (by rw [HV, hs, hr8]; rfl)
            obtain ⟨b0, off0, rfl, g0⟩ := R4.out.at_ (k := 0) (by rw [bv_length]; omega)
            have g1 : w4.cell? ⟨b0, off0, none⟩ = some (.int .u8 kd) := by
              have h := g0
              rw [Nat.add_zero] at h
              rw [h, hkd]
              simp [bv, List.getD_eq_getElem?_getD, List.getElem?_eq_getElem (by omega : 0 < l.length)]
            have i0 : (0 : Int) < (n0 : Int) := by have := hn.out; omega
            obtain ⟨p, hp⟩ : ∃ p, w4.heap.size = p := ⟨_, rfl⟩
            have hgp : g < p := by omega
            obtain ⟨LZ, hLZ⟩ : ∃ LZ, hcs s (List.replicate 32 0) none 0 0 = LZ := ⟨_, rfl⟩
            have hLZ1 : LZ.length = 34 := by rw [← hLZ]; exact hcl_len _ _ _ _ _ (by simp)
            have hLZ2 : ∀ u ∈ LZ, u.oneCell' = true := by rw [← hLZ]; exact hcl_one _ _ _ _ _
            have HBs : Hid (∀ W, (Instr.build 32 #[(0, .bool s)]).run Try.prog W = .ok (.agg LZ.toArray) W) := Lib.hid (fun W => by rw [← hLZ]; exact build32s s W)
            have HZ6 : Hid ((w4.alloc (.cells hz34.toArray 32)).heap[p]? = some (.cells hz34.toArray 32 (0, 0))) := Lib.hid (by rw [← hp]; exact heap_alloc_new w4 _)
            have HX6 : Hid (∀ w5, w5.heap[p]? = some (.cells (over hz34.toArray 0 LZ) 32 (0, 0)) → Fr (fun k => k = p) (w4.alloc (.cells hz34.toArray 32)) w5 → w5.heap[p]? = some (.cells (hcl s (List.replicate 32 0) none 0 0) 32 (0, 0)) ∧ Below w4.heap.size w4 w5 ∧ Rd w5 (some ⟨b, off, none⟩) (bv xs)) := Lib.hid (fun w5 h5 F5 => by
              subst hp
              obtain ⟨h1, h2⟩ := alloc_store h5 F5 (by rw [hz34_size, hLZ1])
              rw [← hLZ] at h1
              exact ⟨h1, h2, RX.out.below h2⟩)
            have HX7 : Hid (∀ w5, Below w4.heap.size w4 w5 → Rd w5 (some ⟨b, off, none⟩) (bv xs) → ∀ w6, w6.heap[p]? = some (.cells ((hcl s (List.replicate 32 0) none 0 0).toList.take 1 ++ (bv (xs.take 32) ++ (hcl s (List.replicate 32 0) none 0 0).toList.drop (1 + 32))).toArray 32 (0, 0)) → Fr (· = p) w5 w6 → Rx w0 w6 g p s r none 0 0 [] (some ⟨b, off, none⟩) xs) := Lib.hid (fun w5 b5 r5 w6 h6 F6 => by
              rw [hr8, hcs_copy s _ r (by simp)] at h6
              have z5 := heap_fr z4.out (Fr.of_below b5 NoS) (fun x => x)
              exact ⟨hg.out.symm, hgp, heap_fr z5 F6 (by omega), h6, hr32, Ids.nil _ _, r5.fr F6 (fun _ a ha e => by have := hxb.out a ha; omega), hxb.out, bel_at (b4.out.trans (b5.mono (by omega))) (by have := b5.size; omega) (by omega) F6⟩)
            have hfit : 1 + 32 ≤ (hcl s (List.replicate 32 0) none 0 0).size := by rw [hcl_size _ _ _ _ _ (by simp)]; omega
            have h32n : 32 ≤ n1 := by omega
            replace hlen := Lib.hid hlen
            replace hlm := Lib.hid hlm
            replace hr8 := Lib.hid hr8
            replace hr32 := Lib.hid hr32
            replace hLZ := Lib.hid hLZ
            replace hLZ1 := Lib.hid hLZ1
            replace hLZ2 := Lib.hid hLZ2
            replace hL := Lib.hid hL
            replace hm := Lib.hid hm
            replace hq9 := Lib.hid hq9
            replace hnm := Lib.hid hnm
            replace hfit := Lib.hid hfit
            clear HV hkd g0 hfst e3
            go_wp2_with (refine wpList_build rfl 32 #[(0, .tmp 51)] rfl (.agg LZ.toArray) #[(0, .bool s)] (by simp only [List.map_toArray, List.map_cons, List.map_nil]; rfl) (HBs.out _) ?_; refine Hid.out ?_)
            refine Lib.hid ?_
            clear HBs hs g1 d1 d1' d2 d2' d3 d3' d4 HZ
            go_wp2_with (first
              | (refine wpList_store_block rfl 32 (.tmp 8) (.tmp 52) rfl p 0 LZ rfl rfl hz34.toArray _ HZ6.out (by rw [hLZ1.out, hz34_size]; exact Nat.le_refl _) (by rw [hLZ1.out]; exact hinfo32) hLZ2.out ?_; intro w5 h5 F5; have HC := HX6.out w5 h5 F5; clear h5 F5; obtain ⟨h5, b5, r5⟩ := HC; replace h5 := Lib.hid h5; replace b5 := Lib.hid b5; replace r5 := Lib.hid r5)
              | (refine wpList_copyP rfl (.tmp 54) (.tmp 55) 24 24 rfl 5 Try.underlying24 (by kernel_rfl) p 1 32 32 (some ⟨b, off, none⟩) n1 c1 rfl rfl _ 32 h5.out xs hlen.out r5.out h32n (by omega) hfit.out ?_; intro w6 h6 F6; have HR6 := Lib.hid (HX7.out w5 b5.out r5.out w6 h6 F6); clear h6 F6))
            clear gm2 hm1 hm2 HX6 HX7 HZ6 h5 b5 r5 hLZ2
            replace hp := Lib.hid hp
            have hcntI : q ≤ 4 := by omega
            go_loopw [9] (fun i wr => ∃ (k c : Nat) (A : Option Addr) (ids : List (List UInt8)), k ≤ q ∧ i = .int .i64 k ∧ Hid (Rx w0 wr g p s r A k c ids (some ⟨b, off, none⟩) xs) ∧ Hid (V = hfin s r (4 + n1) (hgl (q - k) (xs.drop (33 + 9 * k)) ids))) (fun i _ => q - (intOf i).toNat)
            case atStart => exact ⟨0, 0, none, [], by omega, rfl, HR6, H0⟩
            case round =>
              clear HR6 H0
              obtain ⟨k, c, A, ids, hk, rfl, HR, HV⟩ := hrel
              have gq := HR.out.cell rfl (i := 32) (by have := hlen.out; omega)
              rw [hq.out] at gq
              by_cases hkq : k < q
              · rename_i aa; clear aa
                have dk : decide (k < q) = true := decide_eq_true hkq
                obtain ⟨k9, hk9⟩ : ∃ k9, 9 * k = k9 := ⟨_, rfl⟩
                obtain ⟨aq, haq⟩ : ∃ aq, 33 + k9 = aq := ⟨_, rfl⟩
                obtain ⟨a1, ha1⟩ : ∃ a1, aq + 1 = a1 := ⟨_, rfl⟩
                obtain ⟨a9, ha9⟩ : ∃ a9, aq + 9 = a9 := ⟨_, rfl⟩
                have haqe : 33 + 9 * k = aq := by omega
                have hlx := hlm.out
                have haqn : aq + 9 ≤ n1 := by have := hlen.out; omega
                have gy := HR.out.cell rfl (i := aq) (by have := hlen.out; omega)
                have hstep := hgl_at (ids := ids) hlx (by omega : q - k = (q - k - 1) + 1)
                rw [haqe, ha1] at hstep
                have HV2 := HV.out
                rw [haqe, hstep] at HV2
                clear hstep HV
                have E1 : 9 * (k : Int) = (k9 : Int) := by omega
                have E2 : 33 + (k9 : Int) = (aq : Int) := by omega
                have B1 : (k9 : Int) ≤ 36 := by omega
                have B2 : (aq : Int) ≤ 69 := by omega
                have B3 : (aq : Int) < (n1 : Int) := by omega
                by_cases hy : xs.getD aq 0 = 8
                · rw [hy] at gy
                  rw [if_neg (by simpa using hy)] at HV2
                  simp only [UInt8.reduceToNat] at gy
                  obtain ⟨X3, hX3, hX3c⟩ := cut_lh (P := Try.prog) Try.underlying24 infoB (some ⟨b, off, none⟩) n1 c1 a1 a9 (by omega) (by omega)
                  obtain ⟨c3, hc3⟩ : ∃ c3, c1 - a1 = c3 := ⟨_, rfl⟩
                  rw [hc3, show a9 - a1 = 8 by omega] at hX3
                  obtain ⟨id, hid⟩ : ∃ id, (xs.drop a1).take 8 = id := ⟨_, rfl⟩
                  have hid8 : id.length = 8 := by rw [← hid, List.length_take, List.length_drop]; have := hlen.out; omega
                  have R1 : Hid (∀ W, Below wr.heap.size wr W → Rd W X3 (bv id)) := Lib.hid (fun W h => by
                    have := hX3c.bytes (HR.out.x.below h) (by have := hlen.out; omega) (by have := hlen.out; omega)
                    rw [show a9 - a1 = 8 by omega, hid] at this
                    exact this)
                  rw [hid] at HV2
                  have E3 : (aq : Int) + 1 = (a1 : Int) := by omega
                  have E4 : (aq : Int) + 9 = (a9 : Int) := by omega
                  have W3 : IntKind.i64.wrap (a1 : Int) = (a1 : Int) := by rw [IntKind.wrap_i64]; omega
                  have W4 : IntKind.i64.wrap (a9 : Int) = (a9 : Int) := by rw [IntKind.wrap_i64]; omega
                  have hpd := heap_lt HR.out.h
                  have hgd := heap_lt HR.out.z
                  have cell0 := wrote_cell HR.out.h 33 _ (hcl_33 s r A k c HR.out.r32)
                  have hkk : k ≤ 3 := by omega
                  have HV3 : Hid (V = hfin s r (4 + n1) (hgl (q - (k + 1)) (xs.drop (33 + 9 * (k + 1))) (ids ++ [id]))) := Lib.hid HV2
                  have BA := Lib.hid (fun (W : World) (o : Obj) => ((Below.refl _ W).alloc (Nat.le_refl _) o : Below W.heap.size W (W.alloc o)))
                  have HA : Hid ((0 + 8 ≤ maxLen ∧ (0 + 8) * 1 ≤ 140737488355328) ∧ k + 1 ≤ maxLen ∧ (k + 1) * 24 ≤ 140737488355328) := Lib.hid (by unfold maxLen; omega)
                  have HG : Hid (∀ (W : World) (o : Obj), g < W.heap.size → g ≤ (W.alloc o).heap.size) := Lib.hid (fun W o h => by rw [World.size_alloc]; omega)
                  have HO1 : Hid (∀ (A1 : Option Addr) (k1 : Nat), ∀ u ∈ [Value.slice A1 8 k1], u.oneCell' = true) := Lib.hid (fun A1 k1 u hu => by rw [List.mem_singleton.1 hu]; rfl)
                  replace hid8 := Lib.hid hid8
                  replace hid := Lib.hid hid
                  clear HV2 hX3c hc3 hk9 haq ha1 ha9 haqe hlx
                  go_wp2_with fail
                  clear gy gq dk E1 E2
                  have tok1 : True := trivial
                  go_region_law (first
                    | ((have PU := N2.out.below (BA.out w1 (.cells #[.slice A1 8 k1] 24)) |>.push hid8.out (O2.out.alloc _)); obtain ⟨vs, hvs, hstep⟩ := PU; refine step_appY rfl _ _ 23 rfl g 24 (.slice none 0 0) 24 infoS Try.underlying23 rfl (.slice A k c) k vs rfl hvs (some ⟨w1.heap.size, 0, none⟩) 1 1 [.slice A1 8 k1] rfl rfl (Rd.fresh_mark w1 [.slice A1 8 k1] 24 (0, 0)) (HO1.out A1 k1) HA.out.2.1 HA.out.2.2 (HG.out _ _ (heap_lt N2.out.z)) ?_; intro A3 q3 w3 o3 g3 _; obtain ⟨cell3, fr3, NX⟩ := hstep w3 A3 q3 o3 g3; replace NX := Lib.hid NX; clear hvs hstep o3 g3)
                    | (have _t := tok1; clear tok1 _t; (try simp only [Act.put, List.setIfInBounds_toArray, List.set_cons_zero, List.set_cons_succ, List.getElem_toArray, List.getElem_cons_zero, List.getElem_cons_succ]); refine step_appY rfl _ _ 24 rfl g 5 (.int .u8 0) 1 infoB Try.underlying24 rfl (.slice none 0 0) 0 [] rfl (World.ownsRow_nil _ _ _ _) X3 8 c3 (bv id) rfl (by rw [bv_length]; exact hid8.out) (R1.out _ (Still.drew wr).below) (bv_one _) HA.out.1.1 HA.out.1.2 (Nat.le_of_lt hgd) ?_; intro A1 k1 w1 o1 g1 _; have b1 : Below wr.heap.size wr w1 := Fr.below (((Fr.refl NoS wr).drew).grown g1 (fun q hq => by simp [Value.ownBlock] at hq)); simp only [Nat.zero_add, List.nil_append] at o1; have N2 := Lib.hid (HR.out.below b1); have cell1 := (b1.cell (p := ⟨p, 33, none⟩) hpd).trans cell0; have cell1a := fun o => Lib.cell?_alloc_some o cell1; have O2 := Lib.hid o1; replace b1 := Lib.hid b1; clear o1 g1))
                  all_goals
                    clear cell0 cell1 cell1a cell3 fr3
                    go_wp2_with fail
                    go_roundw
                    case rel => exact ⟨k + 1, q3, A3, ids ++ [id], by omega, by go_num, NX, HV3⟩
                    case measure => simp [intOf]; omega
                · obtain ⟨yv, hyv⟩ : ∃ yv : Int, ((xs.getD aq 0).toNat : Int) = yv := ⟨_, rfl⟩
                  have d5 : (yv != 8) = true := by rw [← hyv]; exact u8_nel (a := 8) hy
                  rw [hyv] at gy
                  rw [if_pos (by simpa using hy)] at HV2
                  have hv2 : Hid (V = (hzero, 0, 5)) := Lib.hid HV2
                  have hz := Lib.hid HR.out.z
                  have hgd := heap_lt HR.out.z
                  have hbl := Lib.hid HR.out.bel
                  have HZ := fun w => build32z w
                  replace hyv := Lib.hid hyv
                  clear HV2 HR hy hlx hk9 haq ha1 ha9 haqe
                  go_wp2_with (refine wpList_store_block rfl 32 (.tmp 2) (.tmp 73) rfl g 0 hz34 rfl rfl hz34.toArray _ hz.out (Nat.le_of_eq hz34_size.symm) hinfo32 hz34_one ?_; intro w2 h2 F2; have HF2 := Lib.hid (HBAD.out 5 hv2.out wr hbl.out hgd w2 h2 F2); clear h2 F2)
                  exact bodyPost_ret (results_cell3 Try.results26 _ w2 g 32 hz34.toArray _ rfl HF2.out.1 Try.underlying32 rfl hinfo32) rfl HF2.out.2
              · have hk' : k = q := by omega
                have dk : decide (k < q) = false := decide_eq_false hkq
                subst hk'
                have HV2 := HV.out
                rw [hgl_end hlm.out] at HV2
                have hv2 : Hid (V = (⟨s, r, ids⟩, ((4 + n1 : Nat) : Int), 0)) := Lib.hid HV2
                have hLL : Hid (L = ((4 + n1 : Nat) : Int)) := hL
                obtain ⟨LS, hLS⟩ : ∃ LS, (Value.bool s :: (bv r ++ [.slice A k c])) = LS := ⟨_, rfl⟩
                have hr3 := HR.out.r32
                have hLl : LS.length = 34 := by rw [← hLS]; exact hcl_len s r A k c hr3
                have hL1 : ∀ u ∈ LS, u.oneCell' = true := by rw [← hLS]; exact hcl_one s r A k c
                have hR : wr.rangeAt p 0 LS := by
                  have := range_of_block HR.out.h
                  rw [hcl_list, hLS] at this
                  exact this
                have hz := HR.out.z
                have HF : Hid (∀ w2, w2.heap[g]? = some (.cells (over hz34.toArray 0 LS) 32 (0, 0)) → Fr (fun k => k = g) wr w2 → w2.heap[g]? = some (.cells LS.toArray 32 (0, 0)) ∧ RetH w0 V (.returned (.tuple #[.agg LS.toArray, .int .i64 L, .int .i64 0])) w2) := Lib.hid (fun w2 h2 F2 => by
                  rw [over_full LS _ (by rw [hz34_size, hLl])] at h2
                  refine ⟨h2, A, k, c, by rw [hv2.out, hLL.out, ← hLS]; rfl, by rw [hv2.out]; exact hr3, ?_, ?_⟩
                  · rw [hv2.out, ← HR.out.gd]; exact HR.out.id.at_ F2 HR.out.z (by decide) (by decide)
                  · rw [← HR.out.gd]; exact bel_at HR.out.bel (Nat.le_of_lt (heap_lt HR.out.z)) (Nat.le_refl _) F2)
                replace hR := Lib.hid hR
                replace hz := Lib.hid hz
                replace hLl := Lib.hid hLl
                replace hL1 := Lib.hid hL1
                clear hLS HV HV2 HR hr3
                go_wp2_with (first | (refine wpList_load_mid rfl 32 (.tmp 8) rfl p 0 rfl LS _ hR.out Try.underlying32 rfl (by rw [hLl.out]; exact hinfo32) ?_) | (refine wpList_store_block rfl 32 (.tmp 2) (.tmp 86) rfl g 0 LS rfl rfl hz34.toArray _ hz.out (by rw [hLl.out, hz34_size]; exact Nat.le_refl _) (by rw [hLl.out]; exact hinfo32) hL1.out ?_; intro w2 h2 F2; have HF2 := HF.out w2 h2 F2; replace HF2 := Lib.hid HF2; clear h2 F2))
                exact bodyPost_ret (results_cell3 Try.results26 _ w2 g 32 LS.toArray _ rfl HF2.out.1 Try.underlying32 rfl (by rw [List.size_toArray, hLl.out]; exact hinfo32)) rfl HF2.out.2
          · have d4 : ((n1 : Int) != (m : Int)) = true := by rw [bne_iff_ne]; omega
            have hv : Hid (V = (hzero, 0, 5)) := Lib.hid (by
              rw [HV, hgl_none q (xs.drop 33) [] (by rw [List.length_drop, hlen]; omega)]; rfl)
            replace hlen := Lib.hid hlen
            replace hm := Lib.hid hm
            replace hq9 := Lib.hid hq9
            clear HV hkd hL hnm
            go_wp2_with (refine wpList_store_block rfl 32 (.tmp 2) (.tmp 47) rfl g 0 hz34 rfl rfl hz34.toArray _ z4.out (Nat.le_of_eq hz34_size.symm) hinfo32 hz34_one ?_; intro w2 h2 F2; have HF2 := Lib.hid (HBAD.out 5 hv.out w4 b4.out hglt w2 h2 F2); clear h2 F2)
            exact bodyPost_ret (results_cell3 Try.results26 _ w2 g 32 hz34.toArray _ rfl HF2.out.1 Try.underlying32 rfl hinfo32) rfl HF2.out.2
  · replace HV := HV.out
    rw [if_pos he] at HV
    have d1 : (ev != 0) = true := by rw [bne_iff_ne]; exact he
    have hv : Hid (V = (hzero, 0, ev)) := Lib.hid HV
    replace hlen := Lib.hid hlen
    replace RX := Lib.hid RX
    replace hblk := Lib.hid hblk
    clear HV
    go_wp2_with (refine wpList_store_block rfl 32 (.tmp 2) (.tmp 19) rfl g 0 hz34 rfl rfl hz34.toArray _ z4.out (Nat.le_of_eq hz34_size.symm) hinfo32 hz34_one ?_; intro w2 h2 F2; have HF2 := Lib.hid (HBAD.out ev hv.out w4 b4.out hglt w2 h2 F2); clear h2 F2)
    exact bodyPost_ret (results_cell3 Try.results26 _ w2 g 32 hz34.toArray _ rfl HF2.out.1 Try.underlying32 rfl hinfo32) rfl HF2.out.2
end Go.Proofs.Ytlepceajpgloeaa
