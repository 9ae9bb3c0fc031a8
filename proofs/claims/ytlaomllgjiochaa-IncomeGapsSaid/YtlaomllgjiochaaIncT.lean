/- IncomeGaps: the walk. -/
import Derived.Test.YtlaomllgjiochaaIncS
import Derived.Deep.RegionHeld3
namespace Go.Proofs.Ytlaomllgjiochaa
open Go.RowKit

set_option maxRecDepth 100000 in
set_option maxHeartbeats 8000000 in
theorem gaps_lt (m0 from0 to0 : Int) (mk m a b x y : Nat) (w : World) (hmk : Hid (2 + mk = m)) (hm2 : 2 ≤ m) (hm : m ≤ 100) (hx : Hid (x = min a b)) (hy : Hid (y = max a b)) (hxy : x ≤ y) (hym : y < m)
    (D1 : Hid (∀ w : World, Calls Try.prog 11 #[.int .i64 m0, .int .i64 99] w fun e w' => e = .returned (.int .i64 mk) ∧ w = w'))
    (D2 : Hid (∀ w : World, Calls Try.prog 11 #[.int .i64 from0, .int .i64 m] w fun e w' => e = .returned (.int .i64 a) ∧ w = w'))
    (D3 : Hid (∀ w : World, Calls Try.prog 11 #[.int .i64 to0, .int .i64 m] w fun e w' => e = .returned (.int .i64 b) ∧ w = w'))
    (lt : Bool) (hlt : decide ((x : Int) < y) = lt) (hlt2 : Hid (lt = decide (x < y))) :
    Calls Try.prog 6 #[.int .i64 m0, .int .i64 from0, .int .i64 to0] w fun e w' => e = .returned (.bool true) ∧ Below w.heap.size w w' := by
  obtain ⟨D, hD⟩ : ∃ D, growl m 5 = D := ⟨_, rfl⟩
  have hDl : D.length = m := by rw [← hD]; simp
  obtain ⟨s1, s2, s3, s4, s5, Q⟩ := gap_plan D m x y hDl hm hxy hym
  have CG := Lib.hid (fun w => grow_any m 5 w (by omega) (by omega))
  rw [hD] at CG
  replace hDl := Lib.hid hDl
  replace Q := Lib.hid Q
  have HMn := fun ts t w => run_min2 (P := Try.prog) a b x (by have := hx.out; omega) ts t w
  have HMx := fun ts t w => run_max2 (P := Try.prog) a b y (by have := hy.out; omega) ts t w
  have hm2k : Hid ((2 : Int) + mk = m) := Lib.hid (by have := hmk.out; omega)
  clear hD
  go_enter Try.func6, Try.ntmps6
  go_wp2_with fail
  refine (D1.out _).mono ?_
  rintro e w' ⟨rfl, rfl⟩
  have hmk0 : mk ≤ 98 := by have := hmk.out; omega
  go_wp2_with fail
  rw [hm2k.out]
  refine (CG.out _).mono ?_
  rintro e w1 ⟨A, c, rfl, ho1, hb1⟩
  have RD := Lib.hid (Rd.of_own ho1)
  have hblk := Lib.hid ho1.lt
  obtain ⟨_, _, hs, hc, hcm⟩ := own_shape _ ho1
  injection hs with hs1 hs2 hs3
  subst hs1 hs3
  clear hs2
  have hcm : c ≤ 9223372036854775807 := by simpa [maxLen] using hcm
  replace ho1 := Lib.hid ho1
  replace hb1 := Lib.hid hb1
  have K1 := cut_h (P := Try.prog) Try.underlying22 infoB A m c x (by omega)
  obtain ⟨X2, K2, q2⟩ := cut_l (P := Try.prog) Try.underlying22 infoB A m c y (by omega) hc
  have K3 := cut_hI (P := Try.prog) Try.underlying22 infoB A m c (m - 1) ((m : Int) - 1) (by omega) (by omega)
  obtain ⟨X4, K4, q4⟩ := cut_lh (P := Try.prog) Try.underlying22 infoB A m c x y hxy (by omega)
  obtain ⟨X5, K5, q5⟩ := cut_l (P := Try.prog) Try.underlying22 infoB A m c x (by omega) hc
  replace q2 := Lib.hid q2
  replace q4 := Lib.hid q4
  replace q5 := Lib.hid q5
  go_wp2_with fail
  refine (new_at w1.heap.size w1 w1 (m : Int) (Below.refl _ _) (Nat.le_refl _) (by omega) (by omega)).mono ?_
  rintro e w2 ⟨rfl, I2, hb2⟩
  obtain ⟨p, hp⟩ : ∃ p, w1.heap.size = p := ⟨_, rfl⟩
  rw [hp] at I2 ⊢
  have hfar : Hid (∀ a, A = some a → a.block < p) := Lib.hid (fun a ha => by have := (hblk.out a.block (by rw [ha]; rfl)).2; omega)
  replace hp := Lib.hid hp
  clear hb2
  replace I2 := I2.here
  go_wp2_with fail
  refine (D2.out _).mono ?_
  rintro e w' ⟨rfl, rfl⟩
  go_wp2_with fail
  refine (D3.out _).mono ?_
  rintro e w' ⟨rfl, rfl⟩
  go_wp2_with fail
  refine (D2.out _).mono ?_
  rintro e w' ⟨rfl, rfl⟩
  go_wp2_with fail
  refine (D3.out _).mono ?_
  rintro e w' ⟨rfl, rfl⟩
  go_wp2_with fail
  have hlx : (D.take x).length = x := by have := hDl.out; simp; omega
  have hly : (D.drop y).length = m - y := by have := hDl.out; simp; omega
  have hl1 : (D.take (m - 1)).length = m - 1 := by have := hDl.out; simp; omega
  have hl4 : ((D.drop x).take (y - x)).length = y - x := by have := hDl.out; simp; omega
  have hl5 : (D.drop x).length = m - x := by have := hDl.out; simp; omega
  replace hlx := Lib.hid hlx
  replace hly := Lib.hid hly
  replace hl1 := Lib.hid hl1
  replace hl4 := Lib.hid hl4
  replace hl5 := Lib.hid hl5
  rw [← hlx.out]
  refine (put_at s1 0 c 0 A (D.take x) false I2 ((RD.out.below (by rw [hp.out]; exact I2.bel)).take_bytes x) (fun _ a ha => .inl (hfar.out a ha)) (by rw [hlx.out]; omega) (by omega) Q.out.e1 Q.out.r1).mono ?_
  rintro e w3 ⟨rfl, I3, -⟩
  rw [hlx.out]
  clear I2
  go_wp2_with fail
  rw [← hly.out]
  refine (put_at s2 0 (c - y) y X2 (D.drop y) true I3 (q2.out.bytes' (RD.out.below (by rw [hp.out]; exact I3.bel)) hDl.out hc) (fun _ a ha => by obtain ⟨a0, e0, e1⟩ := q2.out.blk a ha; rw [← e1]; exact .inl (hfar.out a0 e0)) (by rw [hly.out]; omega) (by omega) Q.out.e2 Q.out.r2).mono ?_
  rintro e w4 ⟨rfl, I4, -⟩
  rw [hly.out]
  clear I3
  cases lt with
  | true =>
    have hgap := Q.out.gap (by have := hlt2.out; simpa using this.symm)
    replace hgap := Lib.hid hgap
    have hlt3 : x < y := by have := hlt2.out; simpa using this.symm
    clear hlt
    have hxx : ((x : Int) != (x : Int)) = false := by simp
    go_wp2_with fail
    refine (readable_at I4).mono ?_
    rintro e wr ⟨rfl, q⟩
    rw [hgap.out.1]
    replace I4 := I4.stillS q
    clear q
    go_wp2_with fail
    refine (whole_at I4).mono ?_
    rintro e ws ⟨rfl, q⟩
    rw [hgap.out.2]
    replace I4 := I4.stillS q
    clear q
    go_wp2_with fail
    refine (high_at I4).mono ?_
    rintro e w5 ⟨rfl, q⟩
    rw [Q.out.hi]
    replace I4 := I4.stillS q
    clear q
    go_wp2_with fail
    refine (put_at s2 11 1 m _ [1] false (I4.alloc _) (Rd.fresh _ (bv [1]) _) (fun _ a ha => fresh_far (Nat.le_refl _) ha) (by decide) (by omega) Q.out.ea Q.out.ra).mono ?_
    rintro e w6 ⟨rfl, I6, -⟩
    clear I4
    go_wp2_with fail
    rw [← hl1.out]
    refine (put_at s2 12 c 0 A (D.take (m - 1)) true I6 ((RD.out.below (by rw [hp.out]; exact I6.bel)).take_bytes (m - 1)) (fun _ a ha => .inl (hfar.out a ha)) (by rw [hl1.out]; omega) (by omega) Q.out.eb Q.out.rb).mono ?_
    rintro e w7 ⟨rfl, I7, -⟩
    rw [hl1.out]
    clear I6
    go_wp2_with fail
    have CR := Lib.hid (read_to x x (D.take x) s3 I7.drewS I7.lt Q.out.n3 Q.out.b3 Q.out.e3)
    replace I7 := Lib.hid I7
    go_region_held3 (fun _ => True) (trivial) (first
      | (go_at_call 12; refine CR.out.mono ?_; rintro e w8 ⟨A8, c8, rfl, ho8, I8, hF8⟩)
      | (go_at_call 13; refine (same_eq (D.take x) x A8 A c8 c w8 hlx.out (Rd.of_own ho8) ((RD.out.below (by rw [hp.out]; exact I8.bel)).take_bytes x) (by omega)).mono ?_; rintro e w9 ⟨rfl, q9⟩)
      | (go_at_call 10; refine (put_to s4 0 (y - x) (c - x) x X4 ((D.drop x).take (y - x)) false (I8.still q9) (q4.out.bytes (RD.out.below (by rw [hp.out]; exact (I8.still q9).bel)) (by have := hDl.out; omega) (by have := hDl.out; omega)) (fun _ a ha => by obtain ⟨a0, e0, e1⟩ := q4.out.blk a ha; rw [← e1]; exact .inl (hfar.out a0 e0)) hl4.out (by omega) (by omega) Q.out.e4 Q.out.r4).mono ?_; rintro e w10 ⟨rfl, I10, -⟩))
    go_wp2_with fail
    have CW := Lib.hid (whole_at I10.drewS)
    rw [Q.out.whole] at CW
    replace I10 := Lib.hid I10
    replace I8 := Lib.hid I8
    go_region_held3 (fun _ => True) (trivial) (first
      | (go_at_call 23; refine CW.out.mono ?_; rintro e w11 ⟨rfl, q11⟩)
      | (go_at_call 12; refine (read_to m (m - x) (D.drop x) s5 (I10.out.drewS.stillS q11) (I10.out.drewS.stillS q11).lt Q.out.n5 Q.out.b5 Q.out.e5).mono ?_; rintro e w12 ⟨A12, c12, rfl, ho12, I12, hF12⟩)
      | (go_at_call 13; refine (same_eq (D.drop x) (m - x) A12 X5 c12 (c - x) w12 hl5.out (Rd.of_own ho12) (q5.out.bytes' (RD.out.below (by rw [hp.out]; exact I12.bel)) hDl.out hc) (by omega)).mono ?_; rintro e w13 ⟨rfl, q13⟩)
      | (go_at_call 14; refine (ended_at (I12.still q13)).mono ?_; rintro e w14 ⟨rfl, q14⟩; rw [Q.out.ended])
      | (go_at_call 8; refine (awake_any _).mono ?_; rintro e w15 ⟨rfl, hb15⟩))
    go_wp2_with fail
    go_ret
    have I15 := ((I12.still q13).still q14).below hb15
    exact ⟨rfl, hb1.out.trans (I15.bel.mono (by rw [← hp.out]; exact hb1.out.size))⟩
  | false =>
    have hxe : x = y := by have := hlt2.out; simp at this; omega
    subst hxe
    clear hlt
    go_wp2_with fail
    refine (high_at I4).mono ?_
    rintro e w5 ⟨rfl, q⟩
    rw [Q.out.hi]
    replace I4 := I4.stillS q
    clear q
    go_wp2_with fail
    refine (put_at s2 11 1 m _ [1] false (I4.alloc _) (Rd.fresh _ (bv [1]) _) (fun _ a ha => fresh_far (Nat.le_refl _) ha) (by decide) (by omega) Q.out.ea Q.out.ra).mono ?_
    rintro e w6 ⟨rfl, I6, -⟩
    clear I4
    go_wp2_with fail
    rw [← hl1.out]
    refine (put_at s2 12 c 0 A (D.take (m - 1)) true I6 ((RD.out.below (by rw [hp.out]; exact I6.bel)).take_bytes (m - 1)) (fun _ a ha => .inl (hfar.out a ha)) (by rw [hl1.out]; omega) (by omega) Q.out.eb Q.out.rb).mono ?_
    rintro e w7 ⟨rfl, I7, -⟩
    rw [hl1.out]
    clear I6
    go_wp2_with fail
    have CR := Lib.hid (read_to x x (D.take x) s3 I7.drewS I7.lt Q.out.n3 Q.out.b3 Q.out.e3)
    replace I7 := Lib.hid I7
    go_region_held3 (fun _ => True) (trivial) (first
      | (go_at_call 12; refine CR.out.mono ?_; rintro e w8 ⟨A8, c8, rfl, ho8, I8, hF8⟩)
      | (go_at_call 13; refine (same_eq (D.take x) x A8 A c8 c w8 hlx.out (Rd.of_own ho8) ((RD.out.below (by rw [hp.out]; exact I8.bel)).take_bytes x) (by omega)).mono ?_; rintro e w9 ⟨rfl, q9⟩)
      | (go_at_call 10; refine (put_to s4 0 0 (c - x) x X4 ((D.drop x).take (x - x)) false (I8.still q9) (q4.out.bytes (RD.out.below (by rw [hp.out]; exact (I8.still q9).bel)) (by have := hDl.out; omega) (by have := hDl.out; omega)) (fun _ a ha => by obtain ⟨a0, e0, e1⟩ := q4.out.blk a ha; rw [← e1]; exact .inl (hfar.out a0 e0)) (by simp) (by omega) (by omega) Q.out.e4 Q.out.r4).mono ?_; rintro e w10 ⟨rfl, I10, -⟩))
    go_wp2_with fail
    have CW := Lib.hid (whole_at I10.drewS)
    rw [Q.out.whole] at CW
    replace I10 := Lib.hid I10
    replace I8 := Lib.hid I8
    go_region_held3 (fun _ => True) (trivial) (first
      | (go_at_call 23; refine CW.out.mono ?_; rintro e w11 ⟨rfl, q11⟩)
      | (go_at_call 12; refine (read_to m (m - x) (D.drop x) s5 (I10.out.drewS.stillS q11) (I10.out.drewS.stillS q11).lt Q.out.n5 Q.out.b5 Q.out.e5).mono ?_; rintro e w12 ⟨A12, c12, rfl, ho12, I12, hF12⟩)
      | (go_at_call 13; refine (same_eq (D.drop x) (m - x) A12 X5 c12 (c - x) w12 hl5.out (Rd.of_own ho12) (q5.out.bytes' (RD.out.below (by rw [hp.out]; exact I12.bel)) hDl.out hc) (by omega)).mono ?_; rintro e w13 ⟨rfl, q13⟩)
      | (go_at_call 14; refine (ended_at (I12.still q13)).mono ?_; rintro e w14 ⟨rfl, q14⟩; rw [Q.out.ended])
      | (go_at_call 8; refine (awake_any _).mono ?_; rintro e w15 ⟨rfl, hb15⟩))
    go_wp2_with fail
    go_ret
    have I15 := ((I12.still q13).still q14).below hb15
    exact ⟨rfl, hb1.out.trans (I15.bel.mono (by rw [← hp.out]; exact hb1.out.size))⟩
end Go.Proofs.Ytlaomllgjiochaa
