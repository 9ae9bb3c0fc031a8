/- OutgoOrder: the walk; it is true at every input. -/
import Derived.Test.YtljpboikjhckiaaOutI
import Derived.Test.YtljpboikjhckiaaGrow
import Derived.Test.YtljpboikjhckiaaLow
namespace Go.Proofs.Ytljpboikjhckiaa
open Go.RowKit

/-- A row that was handed back, and is another one than the states'. -/
theorem far_of {w : World} {b g n c : Nat} {A : Option Addr} {xs : List Value} (ho : w.ownsRow b 5 1 (.slice A n c) n xs) (hg : g < b) : ∀ a, A = some a → ¬ a.block = g := fun a ha e => by
  have := (ho.lt a.block (by rw [ha]; rfl)).1; omega

set_option maxRecDepth 100000 in
set_option maxHeartbeats 8000000 in
theorem order_in (m0 sent0 from0 to0 : Int) (mk0 m k0 k a b x y0 y : Nat) (w : World) (hmk : Hid (10 + mk0 = m)) (hm2 : 10 ≤ m) (hm : m ≤ 100) (hk1 : Hid (1 + k0 = k)) (hk0 : 0 < k) (hkm : k < m) (hx : Hid (x = min a b)) (hy : Hid (y0 = max a b)) (hy1 : Hid (y = y0 + 1)) (hxy : x < y) (hyk : y ≤ k)
    (D1 : Hid (∀ w : World, Calls Try.prog 24 #[.int .i64 m0, .int .i64 91] w fun e w' => e = .returned (.int .i64 mk0) ∧ w = w'))
    (D2 : Hid (∀ w : World, Calls Try.prog 24 #[.int .i64 sent0, .int .i64 ((m : Int) - 1)] w fun e w' => e = .returned (.int .i64 k0) ∧ w = w'))
    (D3 : Hid (∀ w : World, Calls Try.prog 24 #[.int .i64 from0, .int .i64 k] w fun e w' => e = .returned (.int .i64 a) ∧ w = w'))
    (D4 : Hid (∀ w : World, Calls Try.prog 24 #[.int .i64 to0, .int .i64 k] w fun e w' => e = .returned (.int .i64 b) ∧ w = w')) :
    Calls Try.prog 5 #[.int .i64 m0, .int .i64 sent0, .int .i64 from0, .int .i64 to0] w fun e w' => e = .returned (.bool true) ∧ Below w.heap.size w w' := by
  obtain ⟨D, hD⟩ : ∃ D, growl m 3 = D := ⟨_, rfl⟩
  have hDl : D.length = m := by rw [← hD]; simp
  have Q := Lib.hid (ord_plan D m k x y hDl hk0 hkm hxy hyk)
  have CG := Lib.hid (fun w => grow_any m 3 w (by omega) (by omega))
  rw [hD] at CG
  replace hDl := Lib.hid hDl
  have HMn := fun ts t w => run_min2 (P := Try.prog) a b x (by have := hx.out; omega) ts t w
  have HMx := fun ts t w => run_max2 (P := Try.prog) a b y0 (by have := hy.out; omega) ts t w
  have hm2k : Hid ((10 : Int) + mk0 = m) := Lib.hid (by have := hmk.out; omega)
  have hk2k : Hid ((1 : Int) + k0 = k) := Lib.hid (by have := hk1.out; omega)
  have hy2k : (y0 : Int) + 1 = y := by have := hy1.out; omega
  have hmk0 : mk0 ≤ 90 := by have := hmk.out; omega
  have hk00 : k0 ≤ 100 := by have := hk1.out; omega
  have hy00 : y0 ≤ 100 := by have := hy1.out; omega
  have hlk : (D.take k).length = k := by have := hDl.out; simp; omega
  have hlxy : ((D.drop x).take (y - x)).length = y - x := by have := hDl.out; simp; omega
  have hldk : (D.drop k).length = m - k := by have := hDl.out; simp; omega
  replace hlk := Lib.hid hlk
  replace hlxy := Lib.hid hlxy
  replace hldk := Lib.hid hldk
  clear hD
  go_enter Try.func5, Try.ntmps5
  go_wp2_with fail
  refine (D1.out _).mono ?_
  rintro e w' ⟨rfl, rfl⟩
  go_wp2_with fail
  rw [hm2k.out]
  refine (CG.out _).mono ?_
  rintro e w1 ⟨A, c, rfl, ho1, hb1⟩
  have RD := Lib.hid (Rd.of_own ho1)
  have hblk := Lib.hid ho1.lt
  obtain ⟨_, _, hs, hc, hcm⟩ := own_shape _ ho1
  injection hs with hs1 hs2 hs3
  subst hs1 hs3
  clear hs2
  have hcm : c ≤ 9223372036854775807 := by simpa [maxLen] using hcm
  have hAn : Hid (A = none → c = 0) := Lib.hid (fun h => by
    rcases own_cases ho1 with ⟨_, _, h3, _⟩ | ⟨g, h3, _⟩
    · exact h3
    · rw [h] at h3; cases h3)
  replace ho1 := Lib.hid ho1
  replace hb1 := Lib.hid hb1
  have K1 := cut_h (P := Try.prog) Try.underlying22 infoB A m c k (by omega)
  obtain ⟨X2, K2, q2⟩ := cut_lh (P := Try.prog) Try.underlying22 infoB A m c x y (by omega) (by omega)
  obtain ⟨X3, K3, q3⟩ := cut_l (P := Try.prog) Try.underlying22 infoB A m c k (by omega) hc
  replace q2 := Lib.hid q2
  replace q3 := Lib.hid q3
  go_wp2_with fail
  refine (onew_at w1.heap.size w1 w1 D A m c hDl.out (Below.refl _ _) (Nat.le_refl _) RD.out hAn.out (by omega)).mono ?_
  rintro e w2 ⟨p, g, AD, cD, rfl, I2, hp1, hg1, hb2, -⟩
  rw [mk_zero] at I2
  have hfar : Hid (∀ a, A = some a → ¬ a.block = g) := Lib.hid (fun a ha e => by have := (hblk.out a.block (by rw [ha]; rfl)).2; omega)
  replace hp1 := Lib.hid hp1
  replace hg1 := Lib.hid hg1
  replace hb2 := Lib.hid hb2
  go_wp2_with fail
  refine (D2.out _).mono ?_
  rintro e w' ⟨rfl, rfl⟩
  go_wp2_with fail
  rw [hk2k.out]
  refine (onext_at I2 m k 0 (D.take k) k false true _ (by omega) (by omega) (by omega) (by omega) hlk.out Q.out.n1).mono ?_
  rintro r w3 ⟨A3, c3, rfl, ho3, I3, hF3⟩
  have hne := Lib.hid (far_of ho3 I2.is.lt.2)
  have R3 := Rd.of_own ho3
  clear I2 hF3 ho3
  go_wp2_with fail
  refine (onext_at I3 m k 0 [] 0 false false _ (by omega) (by omega) (by omega) (by omega) rfl Q.out.n2).mono ?_
  rintro r w4 ⟨A4, c4, rfl, -, I4, hF4⟩
  replace R3 := R3.fr hF4 (fun _ a ha => hne.out a ha)
  clear I3 hF4
  go_wp2_with fail
  refine (same_eq (D.take k) k A3 A c3 c _ hlk.out R3 ((RD.out.below I4.bel).take_bytes k) (by omega)).mono ?_
  rintro e w5 ⟨rfl, q⟩
  replace I4 := I4.still q
  clear q R3 hne
  go_wp2_with fail
  refine (osent_at I4 k Q.out.sent).mono ?_
  rintro e w6 ⟨rfl, q⟩
  replace I4 := I4.still q
  clear q
  have hkk : ((k : Int) != (k : Int)) = false := by simp
  go_wp2_with fail
  refine (D3.out _).mono ?_
  rintro e w' ⟨rfl, rfl⟩
  go_wp2_with fail
  refine (D4.out _).mono ?_
  rintro e w' ⟨rfl, rfl⟩
  go_wp2_with fail
  refine (D3.out _).mono ?_
  rintro e w' ⟨rfl, rfl⟩
  go_wp2_with fail
  refine (D4.out _).mono ?_
  rintro e w' ⟨rfl, rfl⟩
  go_wp2_with fail
  refine (olost_at I4 x ((y : Int) - x) false _ (by omega) (by omega) (by omega) (by omega) Q.out.l3).mono ?_
  rintro r w7 ⟨rfl, I7, -⟩
  clear I4
  go_wp2_with fail
  refine (othere_at I7 0 x false _ (by omega) (by omega) (by omega) (by omega) Q.out.t4).mono ?_
  rintro r w8 ⟨rfl, I8, -⟩
  clear I7
  go_wp2_with fail
  refine (onext_at I8 m m x ((D.drop x).take (y - x)) (y - x) false true _ (by omega) (by omega) (by omega) (by omega) hlxy.out Q.out.n5).mono ?_
  rintro r w9 ⟨A9, c9, rfl, ho9, I9, -⟩
  have R9 := Rd.of_own ho9
  clear I8 ho9
  have hxx : ((x : Int) != (x : Int)) = false := by simp
  go_wp2_with fail
  refine (same_eq ((D.drop x).take (y - x)) (y - x) A9 X2 c9 (c - x) _ hlxy.out R9 (q2.out.bytes (RD.out.below I9.bel) (by have := hDl.out; omega) (by have := hDl.out; omega)) (by omega)).mono ?_
  rintro e wa ⟨rfl, q⟩
  replace I9 := I9.still q
  clear q R9
  go_wp2_with fail
  refine (oleft_at I9 (m - x) Q.out.left).mono ?_
  rintro e wb ⟨rfl, q⟩
  replace I9 := I9.still q
  clear q
  have hmx : ((((m - x : Nat)) : Int) != (m : Int) - x) = false := by rw [bne_eq_false_iff_eq]; omega
  go_wp2_with fail
  refine (onext_at I9 m m k (D.drop k) (m - k) true true _ (by omega) (by omega) (by omega) (by omega) hldk.out Q.out.n6).mono ?_
  rintro r wc ⟨Ac, cc, rfl, hoc, Ic, -⟩
  have Rc := Rd.of_own hoc
  clear I9 hoc
  go_wp2_with fail
  refine (same_eq (D.drop k) (m - k) Ac X3 cc (c - k) _ hldk.out Rc (q3.out.bytes' (RD.out.below Ic.bel) hDl.out hc) (by omega)).mono ?_
  rintro e wd ⟨rfl, q⟩
  replace Ic := Ic.still q
  clear q Rc
  go_wp2_with fail
  refine (othere_at Ic 0 m true _ (by omega) (by omega) (by omega) (by omega) Q.out.t7).mono ?_
  rintro r we ⟨rfl, Ie, -⟩
  clear Ic
  go_wp2_with fail
  refine (onext_at Ie m m 0 [] 0 false false _ (by omega) (by omega) (by omega) (by omega) rfl Q.out.n8).mono ?_
  rintro r wf ⟨Af, cf, rfl, -, If, -⟩
  clear Ie
  go_wp2_with fail
  refine (odone_at If true Q.out.done).mono ?_
  rintro e wg ⟨rfl, q⟩
  replace If := If.still q
  clear q
  go_wp2_with fail
  refine (oleft_at If 0 Q.out.left0).mono ?_
  rintro e wh ⟨rfl, q⟩
  replace If := If.still q
  clear q
  go_wp2_with fail
  refine (awake_any _).mono ?_
  rintro e wi ⟨rfl, hbi⟩
  go_wp2_with fail
  go_ret
  exact ⟨rfl, hb1.out.trans ((If.below hbi).bel.mono hb1.out.size)⟩

theorem order_any (m0 sent0 from0 to0 : Int) (w : World) :
    Calls Try.prog 5 #[.int .i64 m0, .int .i64 sent0, .int .i64 from0, .int .i64 to0] w fun e w' => e = .returned (.bool true) ∧ Below w.heap.size w w' := by
  obtain ⟨mk, hmk, D1⟩ := low_ex m0 91 (by omega) (by omega)
  obtain ⟨k0, hk0, D2⟩ := low_ex sent0 (10 + mk - 1) (by omega) (by omega)
  rw [show ((10 + mk - 1 : Nat) : Int) = ((10 + mk : Nat) : Int) - 1 from by omega] at D2
  obtain ⟨a, ha, D3⟩ := low_ex from0 (1 + k0) (by omega) (by omega)
  obtain ⟨b, hb, D4⟩ := low_ex to0 (1 + k0) (by omega) (by omega)
  exact order_in m0 sent0 from0 to0 mk (10 + mk) k0 (1 + k0) a b (min a b) (max a b) (max a b + 1) w (Lib.hid rfl) (by omega) (by omega) (Lib.hid rfl) (by omega) (by omega) (Lib.hid rfl) (Lib.hid rfl) (Lib.hid rfl) (by omega) (by omega) (Lib.hid D1) (Lib.hid D2) (Lib.hid D3) (Lib.hid D4)
end Go.Proofs.Ytljpboikjhckiaa
