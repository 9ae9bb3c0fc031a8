/- hello: the document's own functions: Kind, body. -/
import Derived.Test.YtlepceajpgloeaaHlB
namespace Go.Proofs.Ytlepceajpgloeaa
open Go.RowKit

set_option maxRecDepth 100000 in
set_option maxHeartbeats 2000000 in
theorem rkind_any (l : List UInt8) (A : Option Addr) (c n : Nat) (w : World) (hn : l.length = n) (hr : Rd w A (bv l)) (hl : n ≤ 1000000) :
    Calls Try.prog 25 #[.slice A n c] w fun e w' => e = .returned (t3 (hkind l)) ∧ Still w w' := by
  by_cases h4 : n < 4
  · have hk : Hid (hkind l = (0, 0, 3)) := Lib.hid (by unfold hkind; rw [if_pos (by omega)])
    have d0 : decide ((n : Int) < 4) = true := decide_eq_true (by omega)
    have d0' : decide (n < 4) = true := decide_eq_true (by omega)
    clear hn hr
    go_enter Try.func25, Try.ntmps25
    go_wp2_with fail
    go_ret3
    exact ⟨by rw [hk.out]; rfl, Still.refl _⟩
  · have d0 : decide ((n : Int) < 4) = false := decide_eq_false (by omega)
    have d0' : decide (n < 4) = false := decide_eq_false (by omega)
    rcases l with _ | ⟨x0, _ | ⟨x1, _ | ⟨x2, _ | ⟨x3, r⟩⟩⟩⟩
    all_goals first | (exfalso; simp at hn; omega; done) | skip
    obtain ⟨b, off, rfl, hc⟩ := hr (by simp)
    have g0 := hc 0 _ rfl
    have g1 := hc 1 _ rfl
    have g2 := hc 2 _ rfl
    have g3 := hc 3 _ rfl
    have u0 := UInt8.toNat_lt x0
    have u1 := UInt8.toNat_lt x1
    have u2 := UInt8.toNat_lt x2
    have u3 := UInt8.toNat_lt x3
    simp only [Nat.add_zero] at g0 g1 g2 g3
    have i1 : (0:Int) < (n : Int) := by omega
    have i2 : (1:Int) < (n : Int) := by omega
    have i3 : (2:Int) < (n : Int) := by omega
    have i4 : (3:Int) < (n : Int) := by omega
    have HO := or3 x1.toNat x2.toNat x3.toNat u1 u2 u3
    have HK : hkind (x0 :: x1 :: x2 :: x3 :: r) = if x0 ≠ 1 ∧ x0 ≠ 2 ∧ x0 ≠ 20 then (0, 0, 6) else if 1000 < x1.toNat * 65536 + x2.toNat * 256 + x3.toNat then (0, 0, 4) else ((x0.toNat : Int), ((4 + (x1.toNat * 65536 + x2.toNat * 256 + x3.toNat) : Nat) : Int), 0) := by
      unfold hkind; rw [if_neg (by simp)]; rfl
    obtain ⟨N, hN⟩ : ∃ N, x1.toNat * 65536 + x2.toNat * 256 + x3.toNat = N := ⟨_, rfl⟩
    have hNb : N ≤ 16777215 := by omega
    rw [hN] at HO HK
    obtain ⟨y1, hy1⟩ : ∃ y : Int, (x1.toNat : Int) = y := ⟨_, rfl⟩
    obtain ⟨y2, hy2⟩ : ∃ y : Int, (x2.toNat : Int) = y := ⟨_, rfl⟩
    obtain ⟨y3, hy3⟩ : ∃ y : Int, (x3.toNat : Int) = y := ⟨_, rfl⟩
    rw [hy1] at g1 HO
    rw [hy2] at g2 HO
    rw [hy3] at g3 HO
    have q1 : 0 ≤ y1 ∧ y1 < 256 := by omega
    have q2 : 0 ≤ y2 ∧ y2 < 256 := by omega
    have q3 : 0 ≤ y3 ∧ y3 < 256 := by omega
    replace hn := Lib.hid hn
    clear hc hr h4 hN hy1 hy2 hy3 u1 u2 u3
    by_cases hx : x0 ≠ 1 ∧ x0 ≠ 2 ∧ x0 ≠ 20
    · rw [if_pos hx] at HK
      have e1 : ((x0.toNat : Int) != 1) = true := u8_nel (a := 1) hx.1
      have e2 : ((x0.toNat : Int) != 2) = true := u8_nel (a := 2) hx.2.1
      have e3 : ((x0.toNat : Int) != 20) = true := u8_nel (a := 20) hx.2.2
      replace HK := Lib.hid HK
      obtain ⟨y0, hy0⟩ : ∃ y : Int, (x0.toNat : Int) = y := ⟨_, rfl⟩
      rw [hy0] at g0 e1 e2 e3
      replace hy0 := Lib.hid hy0
      clear hx
      go_enter Try.func25, Try.ntmps25
      go_wp2_with fail
      go_ret3
      exact ⟨by rw [HK.out]; rfl, Still.refl _⟩
    · rw [if_neg hx] at HK
      have hx' : x0 = 1 ∨ x0 = 2 ∨ x0 = 20 := by
        rcases Classical.em (x0 = 1) with h | h
        · exact .inl h
        · rcases Classical.em (x0 = 2) with h2 | h2
          · exact .inr (.inl h2)
          · exact .inr (.inr (Classical.byContradiction fun h3 => hx ⟨h, h2, h3⟩))
      by_cases hbig : 1000 < N
      · have d1 : decide ((1000 : Int) < (N : Int)) = true := decide_eq_true (by omega)
        have d1' : decide (1000 < N) = true := decide_eq_true hbig
        rw [if_pos hbig] at HK
        rcases hx' with rfl | rfl | rfl
        all_goals
          simp only [UInt8.reduceToNat] at g0 HK
          replace HK := Lib.hid HK
          clear hx
          go_enter Try.func25, Try.ntmps25
          go_wp2_with fail
          go_big_quiet (fail)
          go_wp2_with fail
          go_ret3
          exact ⟨by rw [HK.out]; rfl, Still.drewN _ _⟩
      · have d1 : decide ((1000 : Int) < (N : Int)) = false := decide_eq_false (by omega)
        have d1' : decide (1000 < N) = false := decide_eq_false hbig
        rw [if_neg hbig] at HK
        rcases hx' with rfl | rfl | rfl
        all_goals
          simp only [UInt8.reduceToNat] at g0 HK
          replace HK := Lib.hid HK
          clear hx
          go_enter Try.func25, Try.ntmps25
          go_wp2_with fail
          go_big_quiet (fail)
          go_wp2_with fail
          go_ret3
          exact ⟨by rw [HK.out]; rfl, Still.drewN _ _⟩
end Go.Proofs.Ytlepceajpgloeaa
