/- HelloTells answers true at every input. -/
import Derived.Test.YtlepceajpgloeaaHlZi
namespace Go.Proofs.Ytlepceajpgloeaa
open Go.RowKit

theorem hput_len (s : Bool) (r : List UInt8) (ids : List (List UInt8)) (hr : r.length = 32) : (hput s r ids).1.length ≤ 73 := by
  unfold hput
  split
  · simp
  · rename_i h1
    split
    · rename_i h2
      have h8 : ∀ i ∈ ids, i.length = 8 := fun i hi => by simpa using List.all_eq_true.1 h2 i hi
      simp only [hpiece_length, hbod_length r ids hr h8]
      omega
    · simp
set_option maxRecDepth 100000 in
set_option maxHeartbeats 8000000 in
theorem htells_in (sv : Bool) (r mac l : List UInt8) (ids : List (List UInt8)) (A Ab : Option Addr) (n c nb cb : Nat) (w : World) (hr : r.length = 32) (hm : mac.length = 32) (hn : ids.length = n) (hn8 : n ≤ 8) (hR : RdR w A ids) (hl : l.length = nb) (hb : Rd w Ab (bv l)) (hnb : nb ≤ 200) (hbc : nb ≤ cb) (hcc : cb ≤ 9223372036854775807) :
    Calls Try.prog 3 #[.bool sv, .agg (bv r).toArray, .slice A n c, .agg (bv mac).toArray, .slice Ab nb cb] w fun e w' => e = .returned (.bool true) ∧ Below w.heap.size w w' := by
  have b1 : decide ((8 : Int) < (n : Int)) = false := decide_eq_false (by omega)
  have b1' : decide (8 < n) = false := decide_eq_false (by omega)
  have b2 : decide ((200 : Int) < (nb : Int)) = false := decide_eq_false (by omega)
  have b2' : decide (200 < nb) = false := decide_eq_false (by omega)
  have HO : Hid (∀ W2, W2 = (w.alloc (.cells (bv r).toArray 22)).alloc (.cells (bv mac).toArray 22) → W2.heap[w.heap.size]? = some (.cells (bv r).toArray 22 (0, 0)) ∧ W2.heap[w.heap.size + 1]? = some (.cells (bv mac).toArray 22 (0, 0)) ∧ Below w.heap.size w W2 ∧ W2.heap.size = w.heap.size + 2) := Lib.hid (fun W2 h => by
    have a1 := heap_alloc_new w (.cells (bv r).toArray 22)
    have s1 : (w.alloc (.cells (bv r).toArray 22)).heap.size = w.heap.size + 1 := by simp
    have a2 := heap_alloc_new (w.alloc (.cells (bv r).toArray 22)) (.cells (bv mac).toArray 22)
    rw [s1] at a2
    subst h
    exact ⟨heap_fr a1 (Fr.of_below ((Below.refl _ _).alloc (Nat.le_refl _) _) NoS) (fun x => x), a2, ((Below.refl _ w).alloc (Nat.le_refl _) _).alloc (by simp) _, by simp⟩)
  have hbr : (bv r).length = 32 := by rw [bv_length, hr]
  have hbm : (bv mac).length = 32 := by rw [bv_length, hm]
  replace hr := Lib.hid hr
  replace hm := Lib.hid hm
  replace hbr := Lib.hid hbr
  replace hbm := Lib.hid hbm
  replace hn := Lib.hid hn
  replace hl := Lib.hid hl
  replace hR := Lib.hid hR
  replace hb := Lib.hid hb
  obtain ⟨rA, hrA⟩ : ∃ rA, (bv r).toArray = rA := ⟨_, rfl⟩
  obtain ⟨mA, hmA⟩ : ∃ mA, (bv mac).toArray = mA := ⟨_, rfl⟩
  rw [hrA, hmA] at HO ⊢
  go_enter Try.func3, Try.ntmps3
  go_wp2_with fail
  have K0 := HO.out _ rfl
  obtain ⟨W2, hW2⟩ : ∃ W2, (w.alloc (.cells rA 22)).alloc (.cells mA 22) = W2 := ⟨_, rfl⟩
  rw [hW2] at K0 ⊢
  clear hW2 HO
  obtain ⟨kr, km, BW, s2⟩ := K0
  rw [← hrA] at kr
  rw [← hmA] at km
  have R2 := Lib.hid (hR.out.fr BW)
  have Rb2 := Lib.hid (hb.out.below BW)
  have RR : Hid (∀ W, Below W2.heap.size W2 W → W.rangeAt w.heap.size 0 (bv r) ∧ W.rangeAt (w.heap.size + 1) 0 (bv mac)) := Lib.hid (fun W b => ⟨range_of_block (heap_fr kr (Fr.of_below b NoS) (fun x => x)), range_of_block (heap_fr km (Fr.of_below b NoS) (fun x => x))⟩)
  replace BW := Lib.hid BW
  replace hrA := Lib.hid hrA
  replace hmA := Lib.hid hmA
  replace s2 := Lib.hid s2
  clear kr km b1 b1' b2 b2' hR hb
  go_loopw [11] (fun i wr => ∃ k : Nat, k ≤ n ∧ i = .int .i64 k ∧ Hid (Below W2.heap.size W2 wr) ∧ Hid (∀ j (hj : j < ids.length), j < k → (ids[j]).length ≤ 20)) (fun i _ => n - (intOf i).toNat)
  case atStart => exact ⟨0, by omega, rfl, Lib.hid (Below.refl _ _), Lib.hid (fun j hj h => by omega)⟩
  case round =>
    obtain ⟨k, hk, rfl, B3, H20⟩ := hrel
    by_cases hkn : k < n
    · rename_i aa; clear aa
      have hkl : k < ids.length := by rw [hn.out]; exact hkn
      obtain ⟨b, off, Ak, ck, rfl, g1, g2, g3, g4⟩ := (R2.out.fr B3.out).at_ hkl
      obtain ⟨m, hmm⟩ : ∃ m, (ids[k]).length = m := ⟨_, rfl⟩
      rw [hmm] at g1
      by_cases h20 : 20 < m
      · have d1 : decide ((20 : Int) < (m : Int)) = true := decide_eq_true (by omega)
        have d1' : decide (20 < m) = true := decide_eq_true h20
        clear g2 g3 g4 H20 hmm
        go_wp2_with fail
        refine (awake_any _).mono ?_
        rintro e wf ⟨rfl, hbf⟩
        go_wp2_with fail
        go_ret
        have bb := B3.out.trans (hbf.mono B3.out.size)
        exact ⟨rfl, BW.out.trans (bb.mono BW.out.size)⟩
      · have d1 : decide ((20 : Int) < (m : Int)) = false := decide_eq_false (by omega)
        have d1' : decide (20 < m) = false := decide_eq_false h20
        have H21 : Hid (∀ j (hj : j < ids.length), j < k + 1 → (ids[j]).length ≤ 20) := Lib.hid (fun j hj h => by
          by_cases e : j = k
          · subst e; omega
          · exact H20.out j hj (by omega))
        clear g2 g3 g4 H20 hmm
        go_wp2_with fail
        go_roundw
        case rel => exact ⟨k + 1, by omega, by go_num, B3, H21⟩
        case measure => simp [intOf]; omega
    · have hkn' : k = n := by omega
      obtain ⟨⟨px, er⟩, hpx⟩ : ∃ q, hput sv r ids = q := ⟨_, rfl⟩
      have hpl := hput_len sv r ids hr.out
      obtain ⟨L, hL⟩ : ∃ L, px.length = L := ⟨_, rfl⟩
      have PU := Lib.hid (fun W (h : RdR W A ids) => hput_any sv r ids A n c W hr.out hn.out h (by omega))
      have PR := Lib.hid (fun W (h : RdR W A ids) => rput_any sv r ids A n c W hr.out hn.out h (by omega))
      rw [hpx] at PU PR hpl
      unfold RetP at PU PR
      simp only [hL] at PU PR hpl
      have HB := fun W => build27q sv r A n c hr.out W
      have hhcs := (hcs_arr sv r A n c)
      have h34 := hcl_len sv r A n c hr.out
      have h341 := hcl_one sv r A n c
      have OF := Lib.hid (fun W => of_any sv r A n c W hr.out)
      obtain ⟨LS, hLS⟩ : ∃ LS, hcs sv r A n c = LS := ⟨_, rfl⟩
      have h34' : LS.length = 34 := by rw [← hLS]; exact h34
      have h341' : ∀ u ∈ LS, u.oneCell' = true := by rw [← hLS]; exact h341
      rw [hLS] at hhcs
      rw [← hhcs] at HB PU OF PR
      clear h34 h341
      have hX3 : Hid (∀ (w4 : World) (lit : Array Value), lit.size = 34 → w4.heap[wr.heap.size]? = some (.cells (over lit 0 LS) 27 (0, 0)) → Fr (fun k => k = wr.heap.size) (wr.alloc (.cells lit 27)) w4 → w4.heap[wr.heap.size]? = some (.cells LS.toArray 27 (0, 0)) ∧ Below W2.heap.size W2 w4) := Lib.hid (fun w4 lit hs h F => by
        obtain ⟨x1, x2⟩ := alloc_store h F (by rw [hs, h34'])
        exact ⟨x1, B3.out.trans (x2.mono B3.out.size)⟩)
      obtain ⟨g, hg⟩ : ∃ g, wr.heap.size = g := ⟨_, rfl⟩
      have rr3 := Lib.hid (RR.out wr B3.out).1
      replace h34' := Lib.hid h34'
      replace h341' := Lib.hid h341'
      replace hL := Lib.hid hL
      replace hpx := Lib.hid hpx
      replace hLS := Lib.hid hLS
      replace hkn' := Lib.hid hkn'
      replace HB := Lib.hid HB
      replace hhcs := Lib.hid hhcs
      rw [hg] at hX3
      have hgn : Hid (∀ o, (wr.alloc o).heap[g]? = some o) := Lib.hid (fun o => by rw [← hg]; exact heap_alloc_new wr o)
      clear H20
      go_wp2_with (first
        | (refine wpList_load_mid rfl 22 (.tmp 6) rfl w.heap.size 0 rfl (bv r) _ rr3.out Try.underlying22 rfl (by rw [hbr.out]; exact hinfo22) ?_)
        | (refine wpList_build rfl 27 #[(0, .tmp 39), (1, .tmp 40), (2, .tmp 41)] rfl (.agg LS.toArray) #[(0, .bool sv), (1, .agg (bv r).toArray), (2, .slice A n c)] (by simp only [List.map_toArray, List.map_cons, List.map_nil]; rfl) (HB.out _) ?_)
        | (refine wpList_store_block rfl 27 (.tmp 12) (.tmp 42) rfl g 0 LS rfl rfl _ _ (hgn.out _) (by rw [h34'.out]; decide) (by rw [h34'.out]; exact hinfo27) h341'.out ?_; intro w4 h4 F4; have V4 := hX3.out w4 _ (by decide) h4 F4; clear h4 F4; obtain ⟨z4, b4⟩ := V4; have r4 := Lib.hid (range_of_block z4); replace z4 := Lib.hid z4; replace b4 := Lib.hid b4)
        | (refine wpList_load_mid rfl 27 (.tmp 12) rfl g 0 rfl LS _ r4.out Try.underlying27 rfl (by rw [h34'.out]; exact hinfo27) ?_; refine Hid.out ?_))
      refine Lib.hid ?_
      replace hg := Lib.hid hg
      clear hX3 hgn rr3 B3 HB
      go_wp2_with fail
      refine (PU.out w4 (R2.out.fr b4.out)).mono ?_
      rintro e w5 ⟨Ax, cx, rfl, ox, b5⟩
      have B5 := Lib.hid (b4.out.trans (b5.mono b4.out.size))
      have hcx := RetS.cap ox
      have X5 := Lib.hid (Rd.of_own ox)
      have r5 := Lib.hid (range_below r4.out b5)
      clear ox b5 PU r4 z4 b4
      go_wp2_with (refine wpList_load_mid rfl 27 (.tmp 12) rfl g 0 rfl LS _ r5.out Try.underlying27 rfl (by rw [h34'.out]; exact hinfo27) ?_)
      refine (OF.out w5).mono ?_
      rintro e w6 ⟨rfl, b6⟩
      have B6 := Lib.hid (B5.out.trans (b6.mono B5.out.size))
      have X6 := Lib.hid (X5.out.below b6)
      clear b6 B5 X5 OF r5
      go_wp2_with fail
      refine (PR.out w6 (R2.out.fr B6.out)).mono ?_
      rintro e w7 ⟨Ay, cy, rfl, oy, b7⟩
      have B7 := Lib.hid (B6.out.trans (b7.mono B6.out.size))
      have X7 := Lib.hid (X6.out.below b7)
      have Y7 := Lib.hid (Rd.of_own oy)
      clear oy b7 PR B6 X6
      go_wp2_with fail
      have SA : Hid (∀ W, Still w7 W → Calls Try.prog 12 #[.slice Ax L cx, .slice Ay L cy] W fun e w' => e = .returned (.bool true) ∧ Still w7 w') := Lib.hid (fun W h => by
        have := still_of (same_any px px Ax Ay cx cy W (h.rd X7.out) (h.rd Y7.out) (by rw [hL.out]; omega) (by rw [hL.out]; omega))
        rw [hL.out, decide_eq_true rfl] at this
        exact this.mono fun e w' ⟨he, hs⟩ => ⟨he, h.trans hs⟩)
      have PF := Lib.hid (fun W => putfin_any mac W hm.out)
      have PG := Lib.hid (fun W => rputfin_any mac W hm.out)
      have SF : Hid (∀ W A1 c1 A2 c2, Rd W A1 (bv (hpiece 20 mac)) → Rd W A2 (bv (hpiece 20 mac)) → Calls Try.prog 12 #[.slice A1 36 c1, .slice A2 36 c2] W fun e w' => e = .returned (.bool true) ∧ Still W w') := Lib.hid (fun W A1 c1 A2 c2 h1 h2 => by
        have hq : (hpiece 20 mac).length = 36 := by rw [hpiece_length, hm.out]
        have := still_of (same_any (hpiece 20 mac) (hpiece 20 mac) A1 A2 c1 c2 W h1 h2 (by rw [hq]; omega) (by rw [hq]; omega))
        rw [hq, decide_eq_true rfl] at this
        exact this)
      have KP : Hid (∀ W, Below w7.heap.size w7 W → W.rangeAt (w.heap.size + 1) 0 (bv mac)) := Lib.hid (fun W b => (RR.out W (B7.out.trans (b.mono B7.out.size))).2)
      have hu22 := Try.underlying22
      have hi22 : (Try.prog.info? 22).map (·.size) = some (bv mac).length := by rw [hbm.out]; exact hinfo22
      have hree : (er != er) = false := by simp
      have h7 : w7.drew.rangeAt (w.heap.size + 1) 0 (bv mac) := KP.out _ (Still.drew w7).below
      have S7 := Lib.hid (Still.drew w7)
      refine wp_region_held_drew (S := fun W => W.rangeAt (w.heap.size + 1) 0 (bv mac)) (by kernel_rfl) h7 (fun hHeld => ?_)
      refine wpAnyH_take (i := 0) (v := ?_) rfl (by kernel_rfl) (by kernel_rfl) (by kernel_rfl) (fun _ _ _ h => h) (Or.inl ⟨by rfl, ?_⟩) (by assumption) ?_
      rotate_left 1
      · (intro w hSw; (try dsimp only at hSw); go_simp; try with_reducible rfl)
      try simp only [Act.put, List.setIfInBounds_toArray, List.set_cons_zero, List.set_cons_succ, List.getElem_toArray, List.getElem_cons_zero, List.getElem_cons_succ]
      refine wpAnyH_take (i := 1) (v := ?_) rfl (by kernel_rfl) (by kernel_rfl) (by kernel_rfl) (fun _ _ _ h => h) (Or.inl ⟨by rfl, ?_⟩) (by assumption) ?_
      rotate_left 1
      · (intro w hSw; (try dsimp only at hSw); go_simp; try with_reducible rfl)
      try simp only [Act.put, List.setIfInBounds_toArray, List.set_cons_zero, List.set_cons_succ, List.getElem_toArray, List.getElem_cons_zero, List.getElem_cons_succ]
      refine wpAnyH_ready (rs := [2]) (by kernel_rfl) (by simp) ?_
      refine AllReadyH.cons rfl (fun K hK => ?_) ?_
      · go_simp; go_at_call 12; refine (SA.out _ S7.out).mono ?_; rintro e w8 ⟨rfl, S8⟩; have B8 := Lib.hid S8.below; replace S8 := Lib.hid S8
        refine hK.out _ _ (KP.out _ B8.out) (fun hHeld => ?_)
        clear hK K
        try simp only [Act.put, List.setIfInBounds_toArray, List.set_cons_zero, List.set_cons_succ, List.getElem_toArray, List.getElem_cons_zero, List.getElem_cons_succ]
        refine wpAnyH_take (i := 3) (v := ?_) rfl (by kernel_rfl) (by kernel_rfl) (by kernel_rfl) (fun _ _ _ h => h) (Or.inl ⟨by rfl, ?_⟩) (by assumption) ?_
        rotate_left 1
        · (intro w hSw; (try dsimp only at hSw); go_simp; try with_reducible rfl)
        try simp only [Act.put, List.setIfInBounds_toArray, List.set_cons_zero, List.set_cons_succ, List.getElem_toArray, List.getElem_cons_zero, List.getElem_cons_succ]
        refine wpAnyH_take (i := 4) (v := ?_) rfl (by kernel_rfl) (by kernel_rfl) (by kernel_rfl) (fun _ _ _ h => h) (Or.inl ⟨by rfl, ?_⟩) (by assumption) ?_
        rotate_left 1
        · (intro w hSw; (try dsimp only at hSw); go_simp; try with_reducible rfl)
        try simp only [Act.put, List.setIfInBounds_toArray, List.set_cons_zero, List.set_cons_succ, List.getElem_toArray, List.getElem_cons_zero, List.getElem_cons_succ]
        refine wpAnyH_take (i := 5) (v := ?_) rfl (by kernel_rfl) (by kernel_rfl) (by kernel_rfl) (fun _ _ _ h => h) (Or.inl ⟨by rfl, ?_⟩) (by assumption) ?_
        rotate_left 1
        · (intro w hSw; (try dsimp only at hSw); go_simp; try with_reducible rfl)
        try simp only [Act.put, List.setIfInBounds_toArray, List.set_cons_zero, List.set_cons_succ, List.getElem_toArray, List.getElem_cons_zero, List.getElem_cons_succ]
        refine wpAnyH_take (i := 6) (v := ?_) rfl (by kernel_rfl) (by kernel_rfl) (by kernel_rfl) (fun _ _ _ h => h) (Or.inl ⟨by rfl, ?_⟩) (by assumption) ?_
        rotate_left 1
        · (intro w hSw; (try dsimp only at hSw); go_simp; try with_reducible rfl)
        try simp only [Act.put, List.setIfInBounds_toArray, List.set_cons_zero, List.set_cons_succ, List.getElem_toArray, List.getElem_cons_zero, List.getElem_cons_succ]
        refine wpAnyH_take (i := 7) (v := ?_) rfl (by kernel_rfl) (by kernel_rfl) (by kernel_rfl) (fun _ _ _ h => h) (Or.inl ⟨by rfl, ?_⟩) (by assumption) ?_
        rotate_left 1
        · (intro w hSw; (try dsimp only at hSw); go_simp; try with_reducible rfl)
        try simp only [Act.put, List.setIfInBounds_toArray, List.set_cons_zero, List.set_cons_succ, List.getElem_toArray, List.getElem_cons_zero, List.getElem_cons_succ]
        refine wpAnyH_take (i := 8) (v := ?_) rfl (by kernel_rfl) (by kernel_rfl) (by kernel_rfl) (fun _ _ _ h => h) (Or.inl ⟨by rfl, ?_⟩) (by assumption) ?_
        rotate_left 1
        · (intro w hSw; (try dsimp only at hSw); go_simp; try with_reducible rfl)
        try simp only [Act.put, List.setIfInBounds_toArray, List.set_cons_zero, List.set_cons_succ, List.getElem_toArray, List.getElem_cons_zero, List.getElem_cons_succ]
        refine wpAnyH_take (i := 9) (v := ?_) rfl (by kernel_rfl) (by kernel_rfl) (by kernel_rfl) (fun _ _ _ h => h) (Or.inl ⟨by rfl, ?_⟩) (by assumption) ?_
        rotate_left 1
        · (intro w hSw; (try dsimp only at hSw); go_simp; try with_reducible rfl)
        try simp only [Act.put, List.setIfInBounds_toArray, List.set_cons_zero, List.set_cons_succ, List.getElem_toArray, List.getElem_cons_zero, List.getElem_cons_succ]
        refine wpAnyH_take (i := 10) (v := .agg (bv mac).toArray) rfl (by kernel_rfl) (by kernel_rfl) (by kernel_rfl) (fun _ _ _ h => h) (yieldsIf_load_mid (by rfl) 22 (.tmp 8) rfl (w.heap.size + 1) 0 rfl (bv mac) _ (fun _ h => h) hu22 rfl hi22) (by assumption) ?_
        try simp only [Act.put, List.setIfInBounds_toArray, List.set_cons_zero, List.set_cons_succ, List.getElem_toArray, List.getElem_cons_zero, List.getElem_cons_succ]
        refine wpAnyH_take (i := 12) (v := .agg (bv mac).toArray) rfl (by kernel_rfl) (by kernel_rfl) (by kernel_rfl) (fun _ _ _ h => h) (yieldsIf_load_mid (by rfl) 22 (.tmp 8) rfl (w.heap.size + 1) 0 rfl (bv mac) _ (fun _ h => h) hu22 rfl hi22) (by assumption) ?_
        try simp only [Act.put, List.setIfInBounds_toArray, List.set_cons_zero, List.set_cons_succ, List.getElem_toArray, List.getElem_cons_zero, List.getElem_cons_succ]
        refine wpAnyH_ready (rs := [11]) (by kernel_rfl) (by simp) ?_
        refine AllReadyH.cons rfl (fun K hK => ?_) ?_
        · go_simp; go_at_call 13; refine (PF.out _).mono ?_; rintro e w9 ⟨A9, c9, rfl, o9, b9⟩; have B9 := Lib.hid (B8.out.trans (b9.mono B8.out.size)); have Q9 := Lib.hid (Rd.of_own o9); clear o9 b9
          refine hK.out _ _ (KP.out _ B9.out) (fun hHeld => ?_)
          clear hK K
          try simp only [Act.put, List.setIfInBounds_toArray, List.set_cons_zero, List.set_cons_succ, List.getElem_toArray, List.getElem_cons_zero, List.getElem_cons_succ]
          refine wpAnyH_ready (rs := [13]) (by kernel_rfl) (by simp) ?_
          refine AllReadyH.cons rfl (fun K hK => ?_) ?_
          · go_simp; go_at_call 14; refine (PG.out _).mono ?_; rintro e w10 ⟨A10, c10, rfl, o10, b10⟩; have B10 := Lib.hid (B9.out.trans (b10.mono B9.out.size)); have Q10 := Lib.hid (Q9.out.below b10); have U10 := Lib.hid (Rd.of_own o10); clear o10 b10
            refine hK.out _ _ (KP.out _ B10.out) (fun hHeld => ?_)
            clear hK K
            try simp only [Act.put, List.setIfInBounds_toArray, List.set_cons_zero, List.set_cons_succ, List.getElem_toArray, List.getElem_cons_zero, List.getElem_cons_succ]
            refine wpAnyH_ready (rs := [14]) (by kernel_rfl) (by simp) ?_
            refine AllReadyH.cons rfl (fun K hK => ?_) ?_
            · go_simp; go_at_call 12; refine (SF.out _ _ _ _ _ Q10.out U10.out).mono ?_; rintro e w11 ⟨rfl, S11⟩; have B11 := Lib.hid (B10.out.trans (S11.below.mono B10.out.size)); clear S11
              refine hK.out _ _ (KP.out _ B11.out) (fun hHeld => ?_)
              clear hK K
              try simp only [Act.put, List.setIfInBounds_toArray, List.set_cons_zero, List.set_cons_succ, List.getElem_toArray, List.getElem_cons_zero, List.getElem_cons_succ]
              refine wpAnyH_take (i := 15) (v := ?_) rfl (by kernel_rfl) (by kernel_rfl) (by kernel_rfl) (fun _ _ _ h => h) (Or.inl ⟨by rfl, ?_⟩) (by assumption) ?_
              rotate_left 1
              · (intro w hSw; (try dsimp only at hSw); go_simp; try with_reducible rfl)
              try simp only [Act.put, List.setIfInBounds_toArray, List.set_cons_zero, List.set_cons_succ, List.getElem_toArray, List.getElem_cons_zero, List.getElem_cons_succ]
              refine wpAnyH_take (i := 16) (v := ?_) rfl (by kernel_rfl) (by kernel_rfl) (by kernel_rfl) (fun _ _ _ h => h) (Or.inl ⟨by rfl, ?_⟩) (by assumption) ?_
              rotate_left 1
              · (intro w hSw; (try dsimp only at hSw); go_simp; try with_reducible rfl)
              try simp only [Act.put, List.setIfInBounds_toArray, List.set_cons_zero, List.set_cons_succ, List.getElem_toArray, List.getElem_cons_zero, List.getElem_cons_succ]
              refine wpAnyH_done (by kernel_rfl) ?_ _
              clear hHeld
              clear h7 hree hi22
              have RB := Lib.hid (Rb2.out.below (B7.out.trans (B11.out.mono B7.out.size)))
              have RX := Lib.hid (X7.out.below B11.out)
              have BB11 := Lib.hid (B7.out.trans (B11.out.mono B7.out.size))
              have KA := Lib.hid (reads_any l Ab nb cb w11 hl.out RB.out (by omega) hbc hcc)
              clear B11 B10 B9 B8 S8 S7 Q9 Q10 U10 X7 Y7
              go_wp2_with fail
              refine KA.out.mono ?_
              rintro e w12 ⟨rfl, b12⟩
              have B12 := Lib.hid (BB11.out.trans (b12.mono BB11.out.size))
              have RB12 := Lib.hid (RB.out.below b12)
              have CP := copied_any px Ax cx w12 (RX.out.below b12) (by rw [hL.out]; omega)
              rw [hL.out] at CP
              replace CP := Lib.hid CP
              clear KA b12 RB RX BB11
              go_wp2_with fail
              refine CP.out.mono ?_
              rintro e w13 ⟨A13, c13, rfl, o13, b13⟩
              have B13 := Lib.hid (B12.out.trans (b13.mono B12.out.size))
              have RB13 := Lib.hid (RB12.out.below b13)
              have O13 := Lib.hid o13
              have hs13 := b13.size
              have hs12 := Lib.hid B12.out.size
              clear o13 b13 CP B12 RB12
              go_wp2_with (at_builtin; refine Hid.out ?_)
              refine Lib.hid ?_
              refine wpList_appG _ (by rfl) _ _ 24 rfl w12.heap.size 5 (.int .u8 0) 1 infoB Try.underlying24 rfl (.slice A13 L c13) L (bv px) rfl O13.out Ab nb cb (bv l) rfl (by rw [bv_length]; exact hl.out) RB13.out (bv_one _) (by unfold maxLen; omega) (by omega) hs13 ?_
              intro A14 c14 w14 o14 g14 _
              have F14 : Fr (fun q => (Value.slice A13 L c13).ownBlock = some q) w13 w14 := (Fr.refl _ w13).grown g14 (fun _ hq _ => hq)
              have B14 : Below W2.heap.size W2 w14 := Fr.under B13.out B13.out.size F14 (fun q hq _ => by have h1 := (O13.out.lt q hq).1; have h2 := hs12.out; omega)
              rw [← bv_append] at o14
              have hc14 := RetS.cap o14
              obtain ⟨M, hM⟩ : ∃ M, L + nb = M := ⟨_, rfl⟩
              rw [hM] at o14 hc14 ⊢
              have KZ := Lib.hid (reads_any (px ++ l) A14 M c14 w14 (by rw [List.length_append, hL.out, hl.out]; exact hM) (Rd.of_own o14) (by omega) hc14.1 hc14.2)
              replace B14 := Lib.hid B14
              replace hM := Lib.hid hM
              clear o14 g14 F14 B13 O13 RB13
              go_wp2_with fail
              refine KZ.out.mono ?_
              rintro e w15 ⟨rfl, b15⟩
              have B15 := Lib.hid (B14.out.trans (b15.mono B14.out.size))
              clear b15 KZ B14
              go_wp2_with fail
              refine (awake_any _).mono ?_
              rintro e w16 ⟨rfl, b16⟩
              have B16 := Lib.hid (B15.out.trans (b16.mono B15.out.size))
              clear b16
              go_wp2_with fail
              go_ret
              exact ⟨rfl, BW.out.trans (B16.out.mono BW.out.size)⟩
            exact AllReadyH.nil
          exact AllReadyH.nil
        exact AllReadyH.nil
      exact AllReadyH.nil
set_option maxRecDepth 100000 in
set_option maxHeartbeats 2000000 in
theorem htells_any (sv : Bool) (r mac l : List UInt8) (ids : List (List UInt8)) (A Ab : Option Addr) (n c nb cb : Nat) (w : World) (hr : r.length = 32) (hm : mac.length = 32) (hn : ids.length = n) (hnc : n ≤ 9223372036854775807) (hR : RdR w A ids) (hl : l.length = nb) (hb : Rd w Ab (bv l)) (hbc : nb ≤ cb) (hcc : cb ≤ 9223372036854775807) :
    Calls Try.prog 3 #[.bool sv, .agg (bv r).toArray, .slice A n c, .agg (bv mac).toArray, .slice Ab nb cb] w fun e w' => e = .returned (.bool true) ∧ Below w.heap.size w w' := by
  by_cases h8 : 8 < n
  · have d1 : decide ((8 : Int) < (n : Int)) = true := decide_eq_true (by omega)
    have d1' : decide (8 < n) = true := decide_eq_true h8
    clear hr hm hn hR hl hb
    go_enter Try.func3, Try.ntmps3
    go_wp2_with fail
    refine (awake_any _).mono ?_
    rintro e wf ⟨rfl, hbf⟩
    go_wp2_with fail
    go_ret
    exact ⟨rfl, (((Below.refl _ w).alloc (Nat.le_refl _) _).alloc (by simp) _).trans (hbf.mono (by simp; omega))⟩
  · by_cases h2 : 200 < nb
    · have d1 : decide ((8 : Int) < (n : Int)) = false := decide_eq_false (by omega)
      have d1' : decide (8 < n) = false := decide_eq_false h8
      have d2 : decide ((200 : Int) < (nb : Int)) = true := decide_eq_true (by omega)
      have d2' : decide (200 < nb) = true := decide_eq_true h2
      clear hr hm hn hR hl hb
      go_enter Try.func3, Try.ntmps3
      go_wp2_with fail
      refine (awake_any _).mono ?_
      rintro e wf ⟨rfl, hbf⟩
      go_wp2_with fail
      go_ret
      exact ⟨rfl, (((Below.refl _ w).alloc (Nat.le_refl _) _).alloc (by simp) _).trans (hbf.mono (by simp; omega))⟩
    · exact htells_in sv r mac l ids A Ab n c nb cb w hr hm hn (by omega) hR hl hb (by omega) hbc hcc
end Go.Proofs.Ytlepceajpgloeaa
