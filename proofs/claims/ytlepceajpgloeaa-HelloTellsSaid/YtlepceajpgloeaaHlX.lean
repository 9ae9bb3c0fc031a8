/- hello: the document's own body. -/
import Derived.Test.YtlepceajpgloeaaHlW
namespace Go.Proofs.Ytlepceajpgloeaa
open Go.RowKit

/-- The body of a piece of one of two kinds: the body, how long the piece is, what is wrong. -/
def rbody (l : List UInt8) (a b : Int) : List UInt8 × Int × Int :=
  if (hkind l).2.2 ≠ 0 then ([], 0, (hkind l).2.2) else if (hkind l).1 ≠ a ∧ (hkind l).1 ≠ b then ([], 0, 6) else if (l.length : Int) < (hkind l).2.1 then ([], 0, 3)
  else ((l.drop 4).take ((hkind l).2.1.toNat - 4), (hkind l).2.1, 0)
/-- What is handed back of it: a piece of what came. -/
def RetRB (w : World) (A0 : Option Addr) (c0 : Nat) (x : List UInt8 × Int × Int) (e : Ending) (w' : World) : Prop :=
  ∃ A c n, e = .returned (.tuple #[.slice A n c, .int .i64 x.2.1, .int .i64 x.2.2]) ∧ x.1.length = n ∧ n ≤ c ∧ c ≤ c0 ∧ n ≤ 1000 ∧ Rd w' A (bv x.1) ∧ (∀ a, A = some a → ∃ b, A0 = some b ∧ b.block = a.block) ∧ Still w w'

set_option maxRecDepth 100000 in
set_option maxHeartbeats 4000000 in
theorem rbody_any (l : List UInt8) (ka kb : Int) (A : Option Addr) (c n : Nat) (w : World) (hn : l.length = n) (hr : Rd w A (bv l)) (hl : n ≤ 1000000) (hc : n ≤ c) (hcc : c ≤ 9223372036854775807) :
    Calls Try.prog 31 #[.slice A n c, .int .i64 ka, .int .i64 kb] w (RetRB w A c (rbody l ka kb)) := by
  have KC := Lib.hid (rkind_any l A c n w hn hr hl)
  obtain ⟨⟨kd, L, er⟩, hq⟩ : ∃ q, hkind l = q := ⟨_, rfl⟩
  have hok := hkind_ok l
  have HB : rbody l ka kb = if er ≠ 0 then ([], 0, er) else if kd ≠ ka ∧ kd ≠ kb then ([], 0, 6) else if (n : Int) < L then ([], 0, 3) else ((l.drop 4).take (L.toNat - 4), L, 0) := by
    unfold rbody; rw [hq, hn]
  rw [hq] at KC hok
  unfold t3 at KC
  simp only at KC hok
  clear hq
  by_cases he : er = 0
  · subst he
    rw [if_neg (by simp)] at HB
    obtain ⟨M, hM, hM1, hM2, hn4⟩ := hok rfl
    rw [hn] at hn4
    subst hM
    clear hok
    by_cases hk : kd ≠ ka ∧ kd ≠ kb
    · rw [if_pos hk] at HB
      have e1 : (kd != ka) = true := by rw [bne_iff_ne]; exact hk.1
      have e2 : (kd != kb) = true := by rw [bne_iff_ne]; exact hk.2
      replace HB := Lib.hid HB
      clear hn hr hk
      go_enter Try.func31, Try.ntmps31
      go_wp2_with fail
      refine KC.out.mono ?_
      rintro e w1 ⟨rfl, ST⟩
      replace ST := Lib.hid ST
      clear KC
      go_wp2_with fail
      go_ret3
      rw [HB.out]
      exact ⟨none, 0, 0, rfl, rfl, Nat.le_refl _, Nat.zero_le _, Nat.zero_le _, Rd.nil _ _, (fun a h => by cases h), ST.out⟩
    · rw [if_neg hk] at HB
      have hk2 : (kd != ka) = false ∨ ((kd != ka) = true ∧ (kd != kb) = false) := by
        by_cases h1 : kd = ka
        · exact .inl (by rw [h1]; simp)
        · by_cases h2 : kd = kb
          · exact .inr ⟨by rw [bne_iff_ne]; exact h1, by rw [h2]; simp⟩
          · exact absurd ⟨h1, h2⟩ hk
      by_cases hs : n < M
      · have d1 : decide ((n : Int) < (M : Int)) = true := decide_eq_true (by omega)
        have d1' : decide (n < M) = true := decide_eq_true hs
        rw [if_pos (by omega)] at HB
        replace HB := Lib.hid HB
        clear hn hr hk
        rcases hk2 with e1 | ⟨e1, e2⟩
        all_goals
          go_enter Try.func31, Try.ntmps31
          go_wp2_with fail
          refine KC.out.mono ?_
          rintro e w1 ⟨rfl, ST⟩
          replace ST := Lib.hid ST
          clear KC
          go_wp2_with fail
          go_ret3
          rw [HB.out]
          exact ⟨none, 0, 0, rfl, rfl, Nat.le_refl _, Nat.zero_le _, Nat.zero_le _, Rd.nil _ _, (fun a h => by cases h), ST.out⟩
      · have d1 : decide ((n : Int) < (M : Int)) = false := decide_eq_false (by omega)
        have d1' : decide (n < M) = false := decide_eq_false hs
        rw [if_neg (by omega)] at HB
        obtain ⟨X, hX, hXc⟩ := cut_lh (P := Try.prog) Try.underlying24 infoB A n c 4 M (by omega) (by omega)
        have RX := fun W (h : Still w W) => hXc.bytes (h.rd hr) (by omega) (by omega)
        obtain ⟨z, hz⟩ : ∃ z, M - 4 = z := ⟨_, rfl⟩
        obtain ⟨c2, hc2⟩ : ∃ c2, c - 4 = c2 := ⟨_, rfl⟩
        simp only [hz, hc2] at hX RX
        replace hX : ∀ w : World, (Instr.sliceAt 24 (.slice A n c) (some (.int .i64 4)) (some (.int .i64 M)) none).run Try.prog w = .ok (.slice X z c2) w := hX
        have hlz : ((l.drop 4).take z).length = z := by rw [List.length_take, List.length_drop]; omega
        rw [Int.toNat_natCast, hz] at HB
        obtain ⟨ys, hys⟩ : ∃ ys, (l.drop 4).take z = ys := ⟨_, rfl⟩
        rw [hys] at HB hlz RX
        have hblk := Lib.hid hXc.blk
        replace HB := Lib.hid HB
        replace RX := Lib.hid RX
        have hzb : z ≤ c2 ∧ c2 ≤ c ∧ z ≤ 1000 := by omega
        replace hzb := Lib.hid hzb
        replace hlz := Lib.hid hlz
        have hi4 : (4 : Int) ≤ (M : Int) := by omega
        have hiM : (M : Int) ≤ (n : Int) := by omega
        clear hn hr hk hys hz hc2 hXc
        rcases hk2 with e1 | ⟨e1, e2⟩
        all_goals
          go_enter Try.func31, Try.ntmps31
          go_wp2_with fail
          refine KC.out.mono ?_
          rintro e w1 ⟨rfl, ST⟩
          replace ST := Lib.hid ST
          clear KC
          go_wp2_with fail
          go_ret3
          rw [HB.out]
          exact ⟨X, c2, z, rfl, hlz.out, hzb.out.1, hzb.out.2.1, hzb.out.2.2, RX.out _ ST.out, hblk.out, ST.out⟩
  · rw [if_pos he] at HB
    have d1 : (er != 0) = true := by rw [bne_iff_ne]; exact he
    replace HB := Lib.hid HB
    clear hn hr hok
    go_enter Try.func31, Try.ntmps31
    go_wp2_with fail
    refine KC.out.mono ?_
    rintro e w1 ⟨rfl, ST⟩
    replace ST := Lib.hid ST
    clear KC
    go_wp2_with fail
    go_ret3
    rw [HB.out]
    exact ⟨none, 0, 0, rfl, rfl, Nat.le_refl _, Nat.zero_le _, Nat.zero_le _, Rd.nil _ _, (fun a h => by cases h), ST.out⟩
end Go.Proofs.Ytlepceajpgloeaa
