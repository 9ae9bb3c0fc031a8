/- hello: slices.Index and Contains over numbers, body. -/
import Derived.Test.YtlepceajpgloeaaHlA
import Derived.Test.YtlepceajpgloeaaObj
namespace Go.Proofs.Ytlepceajpgloeaa
open Go.RowKit

def iv (l : List Int) : List Value := l.map (Value.int .i64)
@[simp] theorem iv_length (l : List Int) : (iv l).length = l.length := by simp [iv]

set_option maxHeartbeats 2000000 in
theorem indexi_any (l : List Int) (A : Option Addr) (c n : Nat) (v : Int) (w : World) (hn : l.length = n) (hr : Rd w A (iv l)) (hl : n ≤ 1000000) :
    Calls Try.prog 33 #[.slice A n c, .int .i64 v] w fun e w' => e = .returned (.int .i64 (fidx (fun x => decide (v = x)) l)) ∧ w = w' := by
  replace hn := Lib.hid hn
  go_enter Try.func33, Try.ntmps33
  go_wp2_with fail
  go_loop [5, 8] (fun _ i => ∃ k : Nat, k ≤ n ∧ i = .int .i64 k ∧ Hid (∀ j, j < k → ∀ y, l[j]? = some y → decide (v = y) = false)) (fun _ i => n - (intOf i).toNat)
  case atStart => exact ⟨0, by omega, rfl, Lib.hid (fun j hj => absurd hj (by omega))⟩
  case round =>
    obtain ⟨k, hk, rfl, HT⟩ := hrel
    by_cases hkl : k < n
    · have hkl2 : k < l.length := by rw [hn.out]; exact hkl
      obtain ⟨b, off, rfl, g⟩ := hr.at_ (k := k) (by simpa using hkl2)
      simp only [iv, List.getElem_map] at g
      have hy' : l[k]? = some l[k] := List.getElem?_eq_getElem hkl2
      obtain ⟨y, hy⟩ : ∃ y, l[k] = y := ⟨_, rfl⟩
      rw [hy] at g hy'
      replace hy' := Lib.hid hy'
      clear hy
      by_cases hv : v = y
      · subst hv
        have d1 : (v == v) = true := by simp
        replace hr := Lib.hid hr
        go_wp2_with fail
        go_ret
        exact ⟨ret_int (fidx_hit _ l k _ hy'.out (decide_eq_true rfl) HT.out).symm, rfl⟩
      · have d1 : (v == y) = false := by rw [beq_eq_false_iff_ne]; exact hv
        replace hv := Lib.hid hv
        replace hr := Lib.hid hr
        go_wp2_with fail
        go_round
        case rel => exact ⟨k + 1, by omega, by go_num, Lib.hid (fun j hj z hz => by
            rcases Nat.lt_or_ge j k with h | h
            · exact HT.out j h z hz
            · have : j = k := by omega
              subst this
              rw [hy'.out] at hz; injection hz with hz; rw [← hz]; exact decide_eq_false hv.out)⟩
        case measure => simp [intOf]; omega
    · have hk' : k = n := by omega
      subst hk'
      replace hr := Lib.hid hr
      go_wp2_with fail
      go_ret
      exact ⟨ret_int (fidx_miss _ l (by rw [hn.out]; exact HT.out)).symm, rfl⟩

theorem containsi_any (l : List Int) (A : Option Addr) (c n : Nat) (v : Int) (w : World) (hn : l.length = n) (hr : Rd w A (iv l)) (hl : n ≤ 1000000) :
    Calls Try.prog 32 #[.slice A n c, .int .i64 v] w fun e w' => e = .returned (.bool (l.any fun x => decide (v = x))) ∧ w = w' := by
  have CI := Lib.hid (indexi_any l A c n v w hn hr hl)
  rw [← fidx_any]
  clear hr hn
  obtain ⟨V, hV⟩ : ∃ V, fidx (fun x => decide (v = x)) l = V := ⟨_, rfl⟩
  rw [hV] at CI ⊢
  clear hV
  go_enter Try.func32, Try.ntmps32
  go_wp2_with fail
  refine CI.out.mono ?_
  rintro e w' ⟨rfl, rfl⟩
  go_wp2_with fail
  go_ret
  exact ⟨rfl, rfl⟩

/-- The body of a piece of some kinds: the kind, the body, what is wrong. -/
def hbody (l : List UInt8) (ks : List Int) : Int × List UInt8 × Int :=
  if (hkind l).2.2 ≠ 0 then (0, [], (hkind l).2.2) else if (ks.any fun x => decide ((hkind l).1 = x)) = false then (0, [], 6) else if (l.length : Int) < (hkind l).2.1 then (0, [], 3)
  else ((hkind l).1, (l.drop 4).take ((hkind l).2.1.toNat - 4), 0)
/-- What is handed back of it: a piece of what came. -/
def RetB (w : World) (A0 : Option Addr) (c0 : Nat) (x : Int × List UInt8 × Int) (e : Ending) (w' : World) : Prop :=
  ∃ A c n, e = .returned (.tuple #[.int .i64 x.1, .slice A n c, .int .i64 x.2.2]) ∧ x.2.1.length = n ∧ n ≤ c ∧ c ≤ c0 ∧ n ≤ 1000 ∧ Rd w' A (bv x.2.1) ∧ (∀ a, A = some a → ∃ b, A0 = some b ∧ b.block = a.block) ∧ Still w w'
theorem hkind_ok (l : List UInt8) (h : (hkind l).2.2 = 0) : ∃ m : Nat, (hkind l).2.1 = (m : Int) ∧ 4 ≤ m ∧ m ≤ 1004 ∧ 4 ≤ l.length := by
  unfold hkind at h ⊢
  by_cases h1 : l.length < 4
  · rw [if_pos h1] at h; simp at h
  · rw [if_neg h1] at h ⊢
    by_cases h2 : l.getD 0 0 ≠ 1 ∧ l.getD 0 0 ≠ 2 ∧ l.getD 0 0 ≠ 20
    · rw [if_pos h2] at h; simp at h
    · rw [if_neg h2] at h ⊢
      by_cases h3 : 1000 < hnum l
      · rw [if_pos h3] at h; simp at h
      · rw [if_neg h3]
        exact ⟨4 + hnum l, rfl, by omega, by omega, by omega⟩

set_option maxRecDepth 100000 in
set_option maxHeartbeats 4000000 in
theorem hbody_any (l : List UInt8) (ks : List Int) (A K : Option Addr) (c n m cm : Nat) (w : World) (hn : l.length = n) (hm : ks.length = m) (hr : Rd w A (bv l)) (hK : Rd w K (iv ks)) (hl : n ≤ 1000000) (hc : n ≤ c) (hcc : c ≤ 9223372036854775807) (hml : m ≤ 100) :
    Calls Try.prog 30 #[.slice A n c, .slice K m cm] w (RetB w A c (hbody l ks)) := by
  have KC := Lib.hid (hkind_any l A c n w hn hr hl)
  obtain ⟨⟨kd, L, er⟩, hq⟩ : ∃ q, hkind l = q := ⟨_, rfl⟩
  have hok := hkind_ok l
  have HB : hbody l ks = if er ≠ 0 then (0, [], er) else if (ks.any fun x => decide (kd = x)) = false then (0, [], 6) else if (n : Int) < L then (0, [], 3) else (kd, (l.drop 4).take (L.toNat - 4), 0) := by
    unfold hbody; rw [hq, hn]
  rw [hq] at KC hok
  unfold t3 at KC
  simp only at KC hok
  clear hq
  by_cases he : er = 0
  · subst he
    rw [if_neg (by simp)] at HB
    obtain ⟨M, hM, hM1, hM2, hn4⟩ := hok rfl
    rw [hn] at hn4
    subst hM
    obtain ⟨B, hBe⟩ : ∃ B, (ks.any fun x => decide (kd = x)) = B := ⟨_, rfl⟩
    have CC := Lib.hid (fun W (h : Still w W) => containsi_any ks K cm m kd W hm (h.rd hK) (by omega))
    rw [hBe] at CC HB
    clear hBe hok
    cases B
    · rw [if_pos rfl] at HB
      replace HB := Lib.hid HB
      clear hn hm hr hK
      go_enter Try.func30, Try.ntmps30
      go_wp2_with fail
      refine KC.out.mono ?_
      rintro e w1 ⟨rfl, ST⟩
      have C1 := Lib.hid (CC.out w1 ST)
      replace ST := Lib.hid ST
      clear CC KC
      go_wp2_with fail
      refine C1.out.mono ?_
      rintro e w2 ⟨rfl, rfl⟩
      clear C1
      go_wp2_with fail
      go_ret3
      rw [HB.out]
      exact ⟨none, 0, 0, rfl, rfl, Nat.le_refl _, Nat.zero_le _, Nat.zero_le _, Rd.nil _ _, (fun a h => by cases h), ST.out⟩
    · rw [if_neg (by simp)] at HB
      by_cases hs : n < M
      · have d1 : decide ((n : Int) < (M : Int)) = true := decide_eq_true (by omega)
        have d1' : decide (n < M) = true := decide_eq_true hs
        rw [if_pos (by omega)] at HB
        replace HB := Lib.hid HB
        clear hn hm hr hK
        go_enter Try.func30, Try.ntmps30
        go_wp2_with fail
        refine KC.out.mono ?_
        rintro e w1 ⟨rfl, ST⟩
        have C1 := Lib.hid (CC.out w1 ST)
        replace ST := Lib.hid ST
        clear CC KC
        go_wp2_with fail
        refine C1.out.mono ?_
        rintro e w2 ⟨rfl, rfl⟩
        clear C1
        go_wp2_with fail
        go_ret3
        rw [HB.out]
        exact ⟨none, 0, 0, rfl, rfl, Nat.le_refl _, Nat.zero_le _, Nat.zero_le _, Rd.nil _ _, (fun a h => by cases h), ST.out⟩
      · have d1 : decide ((n : Int) < (M : Int)) = false := decide_eq_false (by omega)
        have d1' : decide (n < M) = false := decide_eq_false hs
        rw [if_neg (by omega)] at HB
        obtain ⟨X, hX, hXc⟩ := cut_lh (P := Try.prog) Try.underlying24 infoB A n c 4 M (by omega) (by omega)
        have RX := fun W (h : Still w W) => hXc.bytes (h.rd hr) (by omega) (by omega)
        obtain ⟨z, hz⟩ : ∃ z, M - 4 = z := ⟨_, rfl⟩
        obtain ⟨c2, hc2⟩ : ∃ c2, c - 4 = c2 := ⟨_, rfl⟩
        simp only [hz, hc2] at hX RX
        replace hX : ∀ w : World, (Instr.sliceAt 24 (.slice A n c) (some (.int .i64 4)) (some (.int .i64 M)) none).run Try.prog w = .ok (.slice X z c2) w := hX
        have hlz : ((l.drop 4).take z).length = z := by rw [List.length_take, List.length_drop]; omega
        rw [Int.toNat_natCast, hz] at HB
        obtain ⟨ys, hys⟩ : ∃ ys, (l.drop 4).take z = ys := ⟨_, rfl⟩
        rw [hys] at HB hlz RX
        have hblk := Lib.hid hXc.blk
        replace HB := Lib.hid HB
        replace RX := Lib.hid RX
        have hzb : z ≤ c2 ∧ c2 ≤ c ∧ z ≤ 1000 := by omega
        replace hzb := Lib.hid hzb
        replace hlz := Lib.hid hlz
        have hi4 : (4 : Int) ≤ (M : Int) := by omega
        have hiM : (M : Int) ≤ (n : Int) := by omega
        clear hn hm hr hK hys hz hc2 hXc
        go_enter Try.func30, Try.ntmps30
        go_wp2_with fail
        refine KC.out.mono ?_
        rintro e w1 ⟨rfl, ST⟩
        have C1 := Lib.hid (CC.out w1 ST)
        replace ST := Lib.hid ST
        clear CC KC
        go_wp2_with fail
        refine C1.out.mono ?_
        rintro e w2 ⟨rfl, rfl⟩
        clear C1
        go_wp2_with fail
        go_big_quiet (fail)
        go_wp2_with fail
        go_ret3
        rw [HB.out]
        exact ⟨X, c2, z, rfl, hlz.out, hzb.out.1, hzb.out.2.1, hzb.out.2.2, RX.out _ (ST.out.trans (Still.drewN _ _)), hblk.out, ST.out.trans (Still.drewN _ _)⟩
  · rw [if_pos he] at HB
    have d1 : (er != 0) = true := by rw [bne_iff_ne]; exact he
    replace HB := Lib.hid HB
    clear hn hm hr hK hok
    go_enter Try.func30, Try.ntmps30
    go_wp2_with fail
    refine KC.out.mono ?_
    rintro e w1 ⟨rfl, ST⟩
    replace ST := Lib.hid ST
    clear KC
    go_wp2_with fail
    go_ret3
    rw [HB.out]
    exact ⟨none, 0, 0, rfl, rfl, Nat.le_refl _, Nat.zero_le _, Nat.zero_le _, Rd.nil _ _, (fun a h => by cases h), ST.out⟩
end Go.Proofs.Ytlepceajpgloeaa
