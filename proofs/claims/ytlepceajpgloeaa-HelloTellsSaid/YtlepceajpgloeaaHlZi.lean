/- reads: what bytes tell is the document's. -/
import Derived.Test.YtlepceajpgloeaaHlZh
namespace Go.Proofs.Ytlepceajpgloeaa
open Go.RowKit

theorem range_below {w w' : World} {g o : Nat} {cs : List Value} (h : w.rangeAt g o cs) (b : Below w.heap.size w w') : w'.rangeAt g o cs := fun j v hv =>
  (b.cell (p := ⟨g, o + j, none⟩) (World.block_lt_of_cell? w _ (h j v hv))).trans (h j v hv)
set_option maxRecDepth 100000 in
set_option maxHeartbeats 4000000 in
theorem reads_any (l : List UInt8) (A : Option Addr) (n c : Nat) (w : World) (hn : l.length = n) (hr : Rd w A (bv l)) (hl : n ≤ 1000000) (hc : n ≤ c) (hcc : c ≤ 9223372036854775807) :
    Calls Try.prog 15 #[.slice A n c] w fun e w' => e = .returned (.bool true) ∧ Below w.heap.size w w' := by
  have K1 := Lib.hid (fun W (h : Below w.heap.size w W) => hkind_any l A c n W hn (hr.below h) hl)
  have K2 := Lib.hid (fun W (h : Below w.heap.size w W) => rkind_any l A c n W hn (hr.below h) hl)
  have KG := Lib.hid (fun W (h : Below w.heap.size w W) => hget_any l A c n W hn (hr.below h) hl hc hcc)
  have KR := Lib.hid (fun W (h : Below w.heap.size w W) => rget_any l A c n W hn (hr.below h) hl hc hcc)
  have KF := Lib.hid (fun W (h : Below w.heap.size w W) => hfin_any l A c n W hn (hr.below h) hl hc hcc)
  have KQ := Lib.hid (fun W (h : Below w.heap.size w W) => by have := rfin_any l A c n W hn (hr.below h) hl hc hcc; rw [rfin_eq] at this; exact this)
  obtain ⟨hs4, hs8⟩ := hget_small l
  obtain ⟨⟨kd, L, er⟩, hq1⟩ : ∃ q, hkind l = q := ⟨_, rfl⟩
  obtain ⟨⟨⟨s, r, ids⟩, pv, qv⟩, hq2⟩ : ∃ q, hget l = q := ⟨_, rfl⟩
  obtain ⟨⟨xs, v1, v2⟩, hq3⟩ : ∃ q, hfinr l = q := ⟨_, rfl⟩
  rw [hq1] at K1 K2
  rw [hq2] at KG KR hs4 hs8
  rw [hq3] at KF KQ
  unfold t3 at K1 K2
  unfold RetH at KG KR
  unfold RetF at KF KQ
  simp only at K1 K2 KG KR KF KQ hs4 hs8
  replace hs8 := Lib.hid hs8
  replace hr := Lib.hid hr
  clear hq1 hq2 hq3 hn
  go_enter Try.func15, Try.ntmps15
  go_wp2_with fail
  refine (K1.out w (Below.refl _ _)).mono ?_
  rintro e w1 ⟨rfl, S1⟩
  have b1 := Lib.hid S1.below
  clear S1
  go_wp2_with fail
  refine (K2.out w1 b1.out).mono ?_
  rintro e w2 ⟨rfl, S2⟩
  have b2 := Lib.hid (b1.out.trans (S2.below.mono b1.out.size))
  clear S2
  go_wp2_with fail
  refine (KG.out w2 b2.out).mono ?_
  rintro e w3 ⟨A1, n1, c1, rfl, r32, I3, hb3⟩
  have b3 := Lib.hid (b2.out.trans (hb3.mono b2.out.size))
  have hn1 : ids.length = n1 := by obtain ⟨_, _, h2, _⟩ := I3; exact h2
  have hn4 : n1 ≤ 4 := by omega
  have h34 : Hid ((hcs s r A1 n1 c1).length = 34) := Lib.hid (hcl_len _ _ _ _ _ r32)
  have h341 : Hid (∀ u ∈ hcs s r A1 n1 c1, u.oneCell' = true) := Lib.hid (hcl_one _ _ _ _ _)
  have hX4 : Hid (∀ (w4 : World) (lit : Array Value), lit.size = 34 → w4.heap[w3.heap.size]? = some (.cells (over lit 0 (hcs s r A1 n1 c1)) 27 (0, 0)) → Fr (fun k => k = w3.heap.size) (w3.alloc (.cells lit 27)) w4 → Hv w2.heap.size w4 w3.heap.size s r A1 n1 c1 ids ∧ Below w.heap.size w w4) := Lib.hid (fun w4 lit hs h F => by
    obtain ⟨x1, x2⟩ := Hv.new hs r32 I3 h F
    exact ⟨x1, b3.out.trans (x2.mono b3.out.size)⟩)
  have hhcs := fun A n c => (hcs_arr s r A n c).symm
  simp only [hhcs]
  replace hhcs := Lib.hid hhcs
  replace r32 := Lib.hid r32
  replace hn1 := Lib.hid hn1
  clear I3 hb3
  obtain ⟨g9, hg9⟩ : ∃ g9, w3.heap.size = g9 := ⟨_, rfl⟩
  rw [hg9] at hX4
  go_wp2_with (refine wpList_store_block rfl 27 (.tmp 9) (.tmp 38) rfl g9 0 (hcs s r A1 n1 c1) rfl rfl _ _ (by rw [← hg9]; exact heap_alloc_new _ _) (by rw [h34.out]; decide) (by rw [h34.out]; exact hinfo27) h341.out ?_; intro w4 h4 F4; have V4 := hX4.out w4 _ (by decide) h4 F4; clear h4 F4; obtain ⟨V4, b4⟩ := V4; replace V4 := Lib.hid V4; replace b4 := Lib.hid b4)
  replace hg9 := Lib.hid hg9
  refine (KR.out w4 b4.out).mono ?_
  rintro e w5 ⟨A2, n2, c2, rfl, _, I5, hb5⟩
  have hn2 : n2 = n1 := by obtain ⟨_, _, h2, _⟩ := I5; rw [hn1.out] at h2; exact h2.symm
  subst hn2
  have b5 := Lib.hid (b4.out.trans (hb5.mono b4.out.size))
  have V5 := Lib.hid (V4.out.below hb5)
  have R5 := Lib.hid I5.rd
  have h35 : Hid ((hcs s r A2 n2 c2).length = 34) := Lib.hid (hcl_len _ _ _ _ _ r32.out)
  have h351 : Hid (∀ u ∈ hcs s r A2 n2 c2, u.oneCell' = true) := Lib.hid (hcl_one _ _ _ _ _)
  simp only [hhcs.out]
  clear I5 hb5 V4 hX4
  obtain ⟨g12, hg12⟩ : ∃ g12, w5.heap.size = g12 := ⟨_, rfl⟩
  have hX6 : Hid (∀ (w6 : World) (lit : Array Value), lit.size = 34 → w6.heap[g12]? = some (.cells (over lit 0 (hcs s r A2 n2 c2)) 32 (0, 0)) → Fr (fun k => k = g12) (w5.alloc (.cells lit 32)) w6 → w6.heap[g12]? = some (.cells (hcs s r A2 n2 c2).toArray 32 (0, 0)) ∧ Below w.heap.size w w6 ∧ Below w5.heap.size w5 w6) := Lib.hid (fun w6 lit hs h F => by
    subst hg12
    obtain ⟨x1, x2⟩ := alloc_store h F (by rw [hs, h35.out])
    exact ⟨x1, b5.out.trans (x2.mono b5.out.size), x2⟩)
  go_wp2_with (refine wpList_store_block rfl 32 (.tmp 12) (.tmp 44) rfl g12 0 (hcs s r A2 n2 c2) rfl rfl _ _ (by rw [← hg12]; exact heap_alloc_new _ _) (by rw [h35.out]; decide) (by rw [h35.out]; exact hinfo32) h351.out ?_; intro w6 h6 F6; have V6 := hX6.out w6 _ (by decide) h6 F6; clear h6 F6; obtain ⟨z6, b6, bb6⟩ := V6; replace z6 := Lib.hid z6; replace b6 := Lib.hid b6; replace bb6 := Lib.hid bb6)
  replace hg12 := Lib.hid hg12
  refine (KF.out w6 b6.out).mono ?_
  rintro e w7 ⟨rfl, x32, hb7⟩
  have b7 := Lib.hid (b6.out.trans (hb7.mono b6.out.size))
  have z7 := Lib.hid (heap_fr z6.out (Fr.of_below hb7 NoS) (fun x => x))
  have bb7 := Lib.hid (bb6.out.trans (hb7.mono bb6.out.size))
  have hx32 : Hid ((bv xs).length = 32) := Lib.hid (by rw [bv_length, x32])
  replace x32 := Lib.hid x32
  clear hb7 z6 bb6 hX6
  obtain ⟨g15, hg15⟩ : ∃ g15, w7.heap.size = g15 := ⟨_, rfl⟩
  have hX8 : Hid (∀ (w8 : World) (lit : Array Value), lit.size = 32 → w8.heap[g15]? = some (.cells (over lit 0 (bv xs)) 22 (0, 0)) → Fr (fun k => k = g15) (w7.alloc (.cells lit 22)) w8 → w8.heap[g15]? = some (.cells (bv xs).toArray 22 (0, 0)) ∧ Below w.heap.size w w8 ∧ Below w7.heap.size w7 w8) := Lib.hid (fun w8 lit hs h F => by
    subst hg15
    obtain ⟨x1, x2⟩ := alloc_store h F (by rw [hs, hx32.out])
    exact ⟨x1, b7.out.trans (x2.mono b7.out.size), x2⟩)
  go_wp2_with (refine wpList_store_block rfl 22 (.tmp 15) (.tmp 50) rfl g15 0 (bv xs) rfl rfl _ _ (by rw [← hg15]; exact heap_alloc_new _ _) (by rw [hx32.out]; decide) (by rw [hx32.out]; exact hinfo22) (bv_one _) ?_; intro w8 h8 F8; have V8 := hX8.out w8 _ (by decide) h8 F8; clear h8 F8; obtain ⟨z8, b8, bb8⟩ := V8; replace z8 := Lib.hid z8; replace b8 := Lib.hid b8; replace bb8 := Lib.hid bb8)
  replace hg15 := Lib.hid hg15
  refine (KQ.out w8 b8.out).mono ?_
  rintro e w9 ⟨rfl, _, hb9⟩
  have b9 := Lib.hid (b8.out.trans (hb9.mono b8.out.size))
  have y9 := Lib.hid (heap_fr z8.out (Fr.of_below hb9 NoS) (fun x => x))
  have bb9 := Lib.hid (bb8.out.trans (hb9.mono bb8.out.size))
  clear hb9 z8 hX8
  obtain ⟨g18, hg18⟩ : ∃ g18, w9.heap.size = g18 := ⟨_, rfl⟩
  have hXa : Hid (∀ (w8 : World) (lit : Array Value), lit.size = 32 → w8.heap[g18]? = some (.cells (over lit 0 (bv xs)) 22 (0, 0)) → Fr (fun k => k = g18) (w9.alloc (.cells lit 22)) w8 → w8.rangeAt g18 0 (bv xs) ∧ w8.rangeAt g15 0 (bv xs) ∧ w8.rangeAt g12 0 (hcs s r A2 n2 c2) ∧ Hv w2.heap.size w8 g9 s r A1 n2 c1 ids ∧ RdR w8 A2 ids ∧ Below w.heap.size w w8) := Lib.hid (fun w8 lit hs h F => by
    subst hg18
    obtain ⟨x1, x2⟩ := alloc_store h F (by rw [hs, hx32.out])
    have q7 : Below w7.heap.size w7 w8 := bb9.out.trans (x2.mono bb9.out.size)
    have q5 : Below w5.heap.size w5 w8 := bb7.out.trans (q7.mono bb7.out.size)
    exact ⟨range_of_block x1, range_of_block (heap_fr y9.out (Fr.of_below x2 NoS) (fun x => x)), range_of_block (heap_fr z7.out (Fr.of_below q7 NoS) (fun x => x)), V5.out.below q5, R5.out.fr q5, b9.out.trans (x2.mono b9.out.size)⟩)
  have HE : ∀ W, (binOp .eql 22 (.agg (bv xs).toArray) (.agg (bv xs).toArray)).run Try.prog W = .ok (.bool true) W := fun W => by
    rw [eql22 xs xs x32.out x32.out W, decide_eq_true rfl]
  go_wp2_with (first
    | (refine wpList_store_block rfl 22 (.tmp 18) (.tmp 56) rfl g18 0 (bv xs) rfl rfl _ _ (by rw [← hg18]; exact heap_alloc_new _ _) (by rw [hx32.out]; decide) (by rw [hx32.out]; exact hinfo22) (bv_one _) ?_; intro wa ha Fa; have Va := hXa.out wa _ (by decide) ha Fa; clear ha Fa; obtain ⟨za, ya, xa, Ha, Ra, ba⟩ := Va; replace za := Lib.hid za; replace ya := Lib.hid ya; replace xa := Lib.hid xa; replace Ha := Lib.hid Ha; replace Ra := Lib.hid Ra; replace ba := Lib.hid ba; refine Hid.out ?_))
  refine Lib.hid ?_
  replace hg18 := Lib.hid hg18
  have CS := Lib.hid (same_yes s r ids A1 A2 n2 c1 c2 wa r32.out hn1.out (by omega) Ha.out.id.rd Ra.out (fun i hi => by rw [hs8.out i hi]; omega))
  simp only [hhcs.out] at CS
  have rng := Lib.hid Ha.out.range
  clear hXa y9 z7 bb7 bb9 bb8
  go_wp2_with (first
    | (refine wpList_loadG rfl 27 (.tmp 9) rfl g9 0 rfl (hcs s r A1 n2 c1) _ rng.out Try.underlying27 rfl (by rw [h34.out]; exact hinfo27) ?_)
    | (refine wpList_loadG rfl 32 (.tmp 12) rfl g12 0 rfl (hcs s r A2 n2 c2) _ xa.out Try.underlying32 rfl (by rw [h35.out]; exact hinfo32) ?_)
    | (go_at_call 28; refine CS.out.mono ?_; rintro e wb ⟨rfl, hbb⟩; have zb := Lib.hid (range_below za.out hbb); have yb := Lib.hid (range_below ya.out hbb); have Hb := Lib.hid (Ha.out.below hbb); have bz := Lib.hid (ba.out.trans (hbb.mono ba.out.size)); clear hbb)
    | (refine wpList_loadG rfl 22 (.tmp 15) rfl g15 0 rfl (bv xs) _ yb.out Try.underlying22 rfl (by rw [hx32.out]; exact hinfo22) ?_)
    | (refine wpList_loadG rfl 22 (.tmp 18) rfl g18 0 rfl (bv xs) _ zb.out Try.underlying22 rfl (by rw [hx32.out]; exact hinfo22) ?_))
  clear HE rng
  have hB0 : Hid (IdB w2.heap.size wb A1 n2 c1 8) := Lib.hid (Hb.out.id.idb (fun i hi => hs8.out i hi) (by omega))
  have hP0 : Hid (wb.heap[g9]? = some (.cells (hcl s r A1 n2 c1) 27 (0, 0))) := Lib.hid Hb.out.h
  have hw2 : Hid (w.heap.size ≤ w2.heap.size) := Lib.hid b2.out.size
  have h33 : Hid ((hcl s r A1 n2 c1)[33]? = some (.slice A1 n2 c1)) := Lib.hid (hcl_33 s r A1 n2 c1 r32.out)
  go_loopw [22] (fun i wr => ∃ k : Nat, k ≤ n2 ∧ i = .int .i64 k ∧ Hid (IdB w2.heap.size wr A1 n2 c1 8) ∧ Hid (wr.heap[g9]? = some (.cells (hcl s r A1 n2 c1) 27 (0, 0))) ∧ Hid (Below w.heap.size w wr)) (fun i _ => n2 - (intOf i).toNat)
  case atStart => exact ⟨0, by omega, rfl, hB0, hP0, bz⟩
  case round =>
    clear hB0 hP0 Ha Hb za zb ya yb xa CS V5
    obtain ⟨k, hk, rfl, HI, HP, HW⟩ := hrel
    have e33 := wrote_cell HP.out 33 _ h33.out
    by_cases hkn : k < n2
    · rename_i aa; clear aa
      obtain ⟨b, off, g, ck, rfl, q1, q2, q3, q4, q5, q6⟩ := HI.out.at_ k hkn
      have KO := Lib.hid (over_blk g 8 ck wr q5 (by omega) q4)
      have hpg : g9 ≠ g := by
        intro e
        subst e
        obtain ⟨cur, h1, _⟩ := q5
        rw [HP.out] at h1
        injection h1 with h1
        injection h1 with _ h1
        exact absurd h1 (by decide)
      have HN : Hid (∀ w', Fr (fun q => q = g) wr w' → BlkB w' g ck → IdB w2.heap.size w' (some ⟨b, off, none⟩) n2 c1 8 ∧ w'.heap[g9]? = some (.cells (hcl s r (some ⟨b, off, none⟩) n2 c1) 27 (0, 0)) ∧ Below w.heap.size w w') := Lib.hid (fun w' F B => by
        refine ⟨HI.out.over q5 B F (fun a ha => by injection ha with ha; subst ha; exact q6), heap_fr HP.out F hpg, Fr.under HW.out HW.out.size F (fun q hq _ => by have := hw2.out; omega)⟩)
      replace q5 := Lib.hid q5
      clear HI HP HW
      go_wp2_with fail
      refine KO.out.mono ?_
      rintro e wx ⟨rfl, F, B⟩
      obtain ⟨x1, x2, x3⟩ := HN.out wx F B
      replace x1 := Lib.hid x1
      replace x2 := Lib.hid x2
      replace x3 := Lib.hid x3
      clear F B HN KO e33 q3
      go_wp2_with fail
      go_roundw
      case rel => exact ⟨k + 1, by omega, by go_num, x1, x2, x3⟩
      case measure => simp [intOf]; omega
    · have hkn' : k = n2 := by omega
      clear HI HP
      go_wp2_with fail
      go_ret
      exact ⟨rfl, HW.out⟩
end Go.Proofs.Ytlepceajpgloeaa
