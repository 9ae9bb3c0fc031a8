/- What the proof of LetterReads stands on, part 3: 14 texts of ours, one behind the other. -/
import Derived.Deep.CutRange
import Derived.Deep.Cut
import Derived.Deep.CutBlock
import Derived.Deep.QuietTactic
import Derived.BigQuiet
import Derived.Lib.SlBytesConst
import Derived.OpenShut
import Derived.Deep.SlicePairs
import Derived.SizedLaws
import Derived.ProofKit
import Derived.ChangeOld
import Derived.ChangeSame
import Derived.LaidMore
import Derived.Laws.CopyOwn
import Derived.Test.YtdldipkbknhhoaaDoorMLetterReads0
import Derived.Test.YtdldipkbknhhoaaDoorMLetterReads1
import Derived.Test.YtdldipkbknhhoaaDoorMLetterReads2
/- The document's prefixes: Get, GetText. -/
namespace Go.Proofs.YtdldipkbknhhoaaDoor
open Go.RowKit

theorem and127 (c : UInt8) : bits .and .u8 (c.toNat : Int) 127 = (c.toNat : Int) % 128 := by
  have hc := UInt8.toNat_lt c
  have e2 : c.toNat &&& 127 = c.toNat % 128 := Nat.and_two_pow_sub_one_eq_mod _ 7
  rw [show (127 : Int) = ((127 : Nat) : Int) from rfl, u8_and_nat _ _ (by omega) (by omega), e2]; simp
theorem shift_bd2 (k : Nat) (hk1 : 1 ≤ k) (hk : k < 9) : (2 : Int) ^ (7 * (k - 1)) ≤ 562949953421312 := by
  have : k = 1 ∨ k = 2 ∨ k = 3 ∨ k = 4 ∨ k = 5 ∨ k = 6 ∨ k = 7 ∨ k = 8 := by omega
  rcases this with rfl | rfl | rfl | rfl | rfl | rfl | rfl | rfl <;> decide
theorem prod_bd2 (k : Nat) (hk1 : 1 ≤ k) (hk : k < 10) (p : Int) (h0 : 0 ≤ p) (h1 : p ≤ 127) (h9 : k = 9 → p ≤ 63) : 0 ≤ p * 2 ^ (7 * (k - 1)) ∧ p * 2 ^ (7 * (k - 1)) ≤ 4539628424389459968 := by
  have hS := shift_bd k hk
  refine ⟨Int.mul_nonneg h0 (by omega), ?_⟩
  by_cases h : k = 9
  · subst h
    have := h9 rfl
    simp only [show 7 * (9 - 1) = 56 from rfl, show (2 : Int) ^ 56 = 72057594037927936 from by decide]
    omega
  · have hS2 := shift_bd2 k hk1 (by omega)
    have := Int.mul_le_mul h1 hS2 (by omega) (by omega)
    omega
theorem prod_big (p : Int) (h : 63 < p) : 4611686018427387903 < p * 2 ^ (7 * (9 - 1)) := by
  simp only [show 7 * (9 - 1) = 56 from rfl, show (2 : Int) ^ 56 = 72057594037927936 from by decide]
  omega

set_option maxHeartbeats 400000 in
theorem rpget_nil (b : Nat) (A : Option Addr) (c : Nat) (w : World) (hb1 : 1 ≤ b) (hb8 : b ≤ 8) :
    Calls Tryd.prog 59 #[.slice A 0 c, .int .i64 b] w fun e w' => e = .returned (ptup (0, 0, 3)) ∧ w = w' := by
  have d1 : decide ((b : Int) < 1) = false := decide_eq_false (by omega)
  have d2 : decide ((8 : Int) < (b : Int)) = false := decide_eq_false (by omega)
  have d2' : decide (8 < b) = false := decide_eq_false (by omega)
  go_enter Tryd.func59, Tryd.ntmps59
  go_wp2
  go_ret3
  exact ⟨rfl, rfl⟩

set_option maxRecDepth 100000 in
set_option maxHeartbeats 1000000 in
theorem rpget_cons (x : UInt8) (r : List UInt8) (b : Nat) (A : Option Addr) (c : Nat) (w : World) (hb1 : 1 ≤ b) (hb8 : b ≤ 8) (hr : Rd w A (bv (x :: r))) (hm : r.length + 1 ≤ 140737488355328) :
    Calls Tryd.prog 59 #[.slice A (r.length + 1) c, .int .i64 b] w fun e w' => e = .returned (ptup (pget b (x :: r))) ∧ w = w' := by
  have d1 : decide ((b : Int) < 1) = false := decide_eq_false (by omega)
  have d2 : decide ((8 : Int) < (b : Int)) = false := decide_eq_false (by omega)
  have d2' : decide (8 < b) = false := decide_eq_false (by omega)
  obtain ⟨bl, off, rfl, hcell⟩ := hr (by simp)
  have h0 := hcell 0 _ (bv_get (k := 0) (by simp))
  simp only [List.getElem_cons_zero, Nat.add_zero] at h0
  replace hcell := Lib.hid hcell
  have hx := UInt8.toNat_lt x
  have hP := pmost_bd b hb1 hb8
  have hand := and_most x.toNat b hx hb8
  have HG : pget b (x :: r) = if (x.toNat : Int) % 2 ^ b < 2 ^ b - 1 then ((x.toNat : Int) % 2 ^ b, 1, 0) else ploop 9 1 ((x.toNat : Int) % 2 ^ b) r := rfl
  have hz : ((r.length : Int) + 1 == 0) = false := by rw [beq_eq_false_iff_ne]; omega
  have hm0 : 0 ≤ (x.toNat : Int) % 2 ^ b ∧ (x.toNat : Int) % 2 ^ b ≤ 2 ^ b - 1 := by
    have := Int.emod_nonneg (x.toNat : Int) (show (2 : Int) ^ b ≠ 0 by omega)
    have := Int.emod_lt_of_pos (x.toNat : Int) (show (0 : Int) < 2 ^ b by omega)
    omega
  obtain ⟨P, hPe⟩ : ∃ P, (2 : Int) ^ b = P := ⟨_, rfl⟩
  rw [hPe] at hP hand HG hm0
  obtain ⟨m, hme⟩ : ∃ m, (x.toNat : Int) % P = m := ⟨_, rfl⟩
  rw [hme] at hm0 hand HG
  replace HG := Lib.hid HG
  clear hme
  by_cases hlt : m < P - 1
  · go_enter Tryd.func59, Tryd.ntmps59
    go_wp2_with fail
    go_ret3
    exact ⟨by rw [HG.out, if_pos hlt]; rfl, rfl⟩
  · obtain ⟨res, hres⟩ : ∃ res, ploop 9 1 m r = res := ⟨_, rfl⟩
    have HR : pget b (x :: r) = res := by rw [HG.out, if_neg hlt, hres]
    replace HR := Lib.hid HR
    have HRES := Lib.hid hres
    clear hres HG
    go_enter Tryd.func59, Tryd.ntmps59
    go_wp2_with fail
    go_loop [8, 9] (fun n i => ∃ (k : Nat) (N : Int), 1 ≤ k ∧ k ≤ 10 ∧ k ≤ r.length + 1 ∧ i = .int .i64 k ∧ n = .int .u64 N ∧ 0 ≤ N ∧ N ≤ 4611686018427387903 ∧ Hid (ploop (10 - k) k N (r.drop (k - 1)) = res)) (fun _ i => 10 - (intOf i).toNat)
    case atStart => exact ⟨1, m, by omega, by omega, by omega, rfl, rfl, by omega, by omega, HRES⟩
    case round =>
      obtain ⟨k, N, hk1, hk10, hkr, rfl, rfl, hN0, hN1, HL⟩ := hrel
      by_cases hk : k < 10
      · have g1 : decide ((10 : Int) ≤ (k : Int)) = false := decide_eq_false (by omega)
        have g1' : decide (10 ≤ k) = false := decide_eq_false (by omega)
        by_cases hkl : k = r.length + 1
        · have g2 : decide ((r.length : Int) + 1 ≤ (k : Int)) = true := decide_eq_true (by omega)
          have g2' : decide (r.length + 1 ≤ k) = true := decide_eq_true (by omega)
          have HE : res = (0, 0, 3) := by
            rw [← HL.out, List.drop_of_length_le (by omega)]
            obtain ⟨f, hf⟩ : ∃ f, 10 - k = f + 1 := ⟨9 - k, by omega⟩
            rw [hf]; rfl
          replace HE := Lib.hid HE
          replace hkl := Lib.hid hkl
          go_wp2_with fail
          go_ret3
          exact ⟨by rw [HR.out, HE.out]; rfl, rfl⟩
        · have g2 : decide ((r.length : Int) + 1 ≤ (k : Int)) = false := decide_eq_false (by omega)
          have g2' : decide (r.length + 1 ≤ k) = false := decide_eq_false (by omega)
          have hg := hcell.out k _ (bv_get (l := x :: r) (by simp; omega))
          obtain ⟨cb, hcb⟩ : ∃ cb, (x :: r)[k]'(by simp; omega) = cb := ⟨_, rfl⟩
          rw [hcb] at hg
          have hdrop : r.drop (k - 1) = cb :: r.drop k := by
            rw [List.drop_eq_getElem_cons (by omega), ← hcb]
            obtain ⟨j, rfl⟩ : ∃ j, k = j + 1 := ⟨k - 1, by omega⟩
            rfl
          have hS := shift_bd k hk
          have ha := and127 cb
          have HSTEP : ploop (10 - k) k N (r.drop (k - 1)) = if 4611686018427387903 < N + (cb.toNat : Int) % 128 * 2 ^ (7 * (k - 1)) then (0, 0, 4) else if cb.toNat < 128 then (N + (cb.toNat : Int) % 128 * 2 ^ (7 * (k - 1)), (k : Int) + 1, 0) else ploop (10 - (k + 1)) (k + 1) (N + (cb.toNat : Int) % 128 * 2 ^ (7 * (k - 1))) (r.drop (k + 1 - 1)) := by
            obtain ⟨f, hf⟩ : ∃ f, 10 - k = f + 1 := ⟨9 - k, by omega⟩
            rw [hdrop, hf, show 10 - (k + 1) = f from by omega, Nat.add_sub_cancel]; rfl
          rw [HL.out] at HSTEP
          have hcl := UInt8.toNat_lt cb
          have hp : 0 ≤ (cb.toNat : Int) % 128 ∧ (cb.toNat : Int) % 128 ≤ 127 := by omega
          have hlt : k < r.length + 1 := by omega
          have hltI : (k : Int) < (r.length : Int) + 1 := by omega
          by_cases h9 : k = 9 ∧ 63 < (cb.toNat : Int) % 128
          · obtain ⟨rfl, h63⟩ := h9
            have hbig := prod_big _ h63
            obtain ⟨p, hpe⟩ : ∃ p, (cb.toNat : Int) % 128 = p := ⟨_, rfl⟩
            rw [hpe] at ha HSTEP hp h63 hbig
            have HE := Lib.hid (HSTEP.trans (if_pos (by omega)))
            have g3 : decide (63 < p) = true := decide_eq_true h63
            clear hcb hdrop hpe HSTEP hbig hS
            go_wp2_with fail
            go_ret3
            exact ⟨by rw [HR.out, HE.out]; rfl, rfl⟩
          · have hT := prod_bd2 k hk1 hk _ hp.1 hp.2 (fun e => by omega)
            obtain ⟨t9, ht9⟩ : ∃ t9, ((k : Int) == 9) = t9 := ⟨_, rfl⟩
            have hc9 : t9 = false ∨ (t9 = true ∧ ¬ 63 < (cb.toNat : Int) % 128) := by
              by_cases e : k = 9
              · right; exact ⟨by rw [← ht9, beq_iff_eq]; omega, by omega⟩
              · left; rw [← ht9, beq_eq_false_iff_ne]; omega
            obtain ⟨S, hSe⟩ : ∃ S, (2 : Int) ^ (7 * (k - 1)) = S := ⟨_, rfl⟩
            obtain ⟨p, hpe⟩ : ∃ p, (cb.toNat : Int) % 128 = p := ⟨_, rfl⟩
            rw [hSe] at hS HSTEP hT
            rw [hpe] at ha HSTEP hp hT hc9
            obtain ⟨T, hTe⟩ : ∃ T, p * S = T := ⟨_, rfl⟩
            rw [hTe] at hT HSTEP
            replace HSTEP := Lib.hid HSTEP
            replace h9 := Lib.hid h9
            clear hcb hdrop hpe
            by_cases hc2 : 4611686018427387903 < N + T
            · have hd2 : decide (4611686018427387903 < N + T) = true := decide_eq_true hc2
              rcases hc9 with rfl | ⟨rfl, h63⟩
              · go_wp2_with fail
                go_ret3
                exact ⟨by rw [HR.out, HSTEP.out, if_pos hc2]; rfl, rfl⟩
              · have g3 : decide (63 < p) = false := decide_eq_false h63
                go_wp2_with fail
                go_ret3
                exact ⟨by rw [HR.out, HSTEP.out, if_pos hc2]; rfl, rfl⟩
            · have hd2 : decide (4611686018427387903 < N + T) = false := decide_eq_false hc2
              by_cases hc3 : cb.toNat < 128
              · have HE := Lib.hid (HSTEP.out.trans ((if_neg hc2).trans (if_pos hc3)))
                rcases hc9 with rfl | ⟨rfl, h63⟩
                · go_wp2_with fail
                  go_ret3
                  exact ⟨by rw [HR.out, HE.out]; rfl, rfl⟩
                · have g3 : decide (63 < p) = false := decide_eq_false h63
                  go_wp2_with fail
                  go_ret3
                  exact ⟨by rw [HR.out, HE.out]; rfl, rfl⟩
              · have HN : Hid (ploop (10 - (k + 1)) (k + 1) (N + T) (r.drop (k + 1 - 1)) = res) := by
                  have := HSTEP.out
                  rw [if_neg hc2, if_neg hc3] at this
                  exact Lib.hid this.symm
                rcases hc9 with rfl | ⟨rfl, h63⟩
                · go_wp2_with fail
                  go_round
                  case rel => exact ⟨k + 1, N + T, by omega, by omega, by omega, by go_num, rfl, by omega, by omega, HN⟩
                  case measure => simp [intOf]; omega
                · have g3 : decide (63 < p) = false := decide_eq_false h63
                  go_wp2_with fail
                  go_round
                  case rel => exact ⟨k + 1, N + T, by omega, by omega, by omega, by go_num, rfl, by omega, by omega, HN⟩
                  case measure => simp [intOf]; omega
      · have hk' : k = 10 := by omega
        subst hk'
        have HE : res = (0, 0, 4) := by rw [← HL.out]; rfl
        replace HE := Lib.hid HE
        go_wp2_with fail
        go_ret3
        exact ⟨by rw [HR.out, HE.out]; rfl, rfl⟩

theorem rpget_any (l : List UInt8) (b : Nat) (A : Option Addr) (c : Nat) (w : World) (hb1 : 1 ≤ b) (hb8 : b ≤ 8) (hr : Rd w A (bv l)) (hm : l.length ≤ 140737488355328) :
    Calls Tryd.prog 59 #[.slice A l.length c, .int .i64 b] w fun e w' => e = .returned (ptup (pget b l)) ∧ w = w' := by
  match l, hr, hm with
  | [], _, _ => exact rpget_nil b A c w hb1 hb8
  | x :: r, hr, hm => exact rpget_cons x r b A c w hb1 hb8 hr hm

set_option maxRecDepth 100000 in
set_option maxHeartbeats 2000000 in
theorem rgettext_cons (x : UInt8) (r : List UInt8) (b : Nat) (A : Option Addr) (c : Nat) (w : World) (hb1 : 1 ≤ b) (hb7 : b ≤ 7) (hr : Rd w A (bv (x :: r))) (hm : r.length + 1 ≤ 140737488355328) (hc : r.length + 1 ≤ c) (hcc : c ≤ 9223372036854775807) :
    Calls Tryd.prog 60 #[.slice A (r.length + 1) c, .int .i64 b] w fun e w' => e = .returned (tpgettext b (x :: r)) ∧ w = w' := by
  have d1 : decide ((b : Int) < 1) = false := decide_eq_false (by omega)
  have d2 : decide ((7 : Int) < (b : Int)) = false := decide_eq_false (by omega)
  have d2' : decide (7 < b) = false := decide_eq_false (by omega)
  have hlI : (0 : Int) < (r.length : Int) + 1 := by omega
  have hlD : decide ((0 : Int) < (r.length : Int) + 1) = true := decide_eq_true (by omega)
  have C := Lib.hid (rpget_any (x :: r) b A c w hb1 (by omega) hr hm)
  have HOK := Lib.hid (pget_ok b x r hb1 (by omega))
  have HD := Lib.hid (fun k (h : k ≤ (bv (x :: r)).length) => hr.drop (k := k) (cap := c) h (by simpa using hc))
  obtain ⟨bl, off, rfl, hcell⟩ := hr (by simp)
  have h0 := hcell 0 _ (bv_get (k := 0) (by simp))
  simp only [List.getElem_cons_zero, Nat.add_zero] at h0
  clear hcell
  have hx := UInt8.toNat_lt x
  have hP := pmost_bd b hb1 (by omega)
  have hz : ((r.length : Int) + 1 == 0) = false := by rw [beq_eq_false_iff_ne]; omega
  have hand := shr_bit x.toNat b hx hb1 hb7
  have HG : pgettext b (x :: r) = if (x.toNat : Int) / 2 ^ b % 2 = 1 then ([], 0, 6)
    else if (pget b (x :: r)).2.2 ≠ 0 then ([], 0, (pget b (x :: r)).2.2)
    else if 2000 < (pget b (x :: r)).1 then ([], 0, 4)
    else if ((x :: r).length : Int) - (pget b (x :: r)).2.1 < (pget b (x :: r)).1 then ([], 0, 3)
    else (((x :: r).drop (pget b (x :: r)).2.1.toNat).take (pget b (x :: r)).1.toNat, (pget b (x :: r)).2.1 + (pget b (x :: r)).1, 0) := rfl
  obtain ⟨t, hte⟩ : ∃ t, (x.toNat : Int) / 2 ^ b % 2 = t := ⟨_, rfl⟩
  rw [hte] at hand HG
  have ht : t = 0 ∨ t = 1 := by omega
  obtain ⟨g, hge⟩ : ∃ g, pget b (x :: r) = g := ⟨_, rfl⟩
  rw [hge] at C HOK HG
  obtain ⟨N, a, e⟩ := g
  simp only [] at HG HOK
  replace HG := Lib.hid HG
  clear hte hge
  unfold tpgettext
  rcases ht with rfl | rfl
  · by_cases he : e = 0
    · subst he
      obtain ⟨hN0, hN1, ha1, ha2⟩ := HOK.out rfl
      obtain ⟨n, rfl⟩ := Int.eq_ofNat_of_zero_le hN0
      obtain ⟨a, rfl⟩ := Int.eq_ofNat_of_zero_le (show 0 ≤ a by omega)
      by_cases hb : 2000 < (n : Int)
      · have HE := Lib.hid (HG.out.trans (by rw [if_neg (by omega), if_neg (by simp), if_pos hb]))
        go_enter Tryd.func60, Tryd.ntmps60
        go_wp2_with fail
        refine C.out.mono ?_
        rintro e w' ⟨rfl, rfl⟩
        simp only [ptup]
        go_wp2_with fail
        go_ret3
        exact ⟨by rw [HE.out]; rfl, rfl⟩
      · by_cases hsh : (r.length : Int) + 1 - a < n
        · have HE := Lib.hid (HG.out.trans (by rw [if_neg (by omega), if_neg (by simp), if_neg hb, if_pos (by simpa using hsh)]))
          go_enter Tryd.func60, Tryd.ntmps60
          go_wp2_with fail
          refine C.out.mono ?_
          rintro e w' ⟨rfl, rfl⟩
          simp only [ptup]
          go_wp2_with fail
          go_ret3
          exact ⟨by rw [HE.out]; rfl, rfl⟩
        · have hd := HD.out a (by simp; omega)
          have htk := hd.take n
          rw [← bv_drop, ← bv_take] at htk
          have hlen : (((x :: r).drop a).take n).length = n := by simp; omega
          have HE : pgettext b (x :: r) = (((x :: r).drop a).take n, (a : Int) + n, 0) := HG.out.trans (by rw [if_neg (by omega), if_neg (by simp), if_neg hb, if_neg (by simpa using hsh)]; rfl)
          have hconv := run_conv_bytes (P := Tryd.prog) (src := 23) (dst := 9) (e := 5) Tryd.underlying23 Tryd.underlying5 Tryd.underlying9 (c := c - a) htk
          rw [hlen] at hconv
          rw [HE]
          generalize ((x :: r).drop a).take n = out at hconv
          clear HE HG htk hd hlen HD
          obtain ⟨S, hSe⟩ : ∃ S : ByteArray, (⟨out.toArray⟩ : ByteArray) = S := ⟨_, rfl⟩
          simp only [hSe] at hconv ⊢
          clear hSe
          by_cases hca : c = a
          · subst hca
            have hn0 : n = 0 := by omega
            subst hn0
            rw [if_pos rfl] at hconv
            simp only [Nat.sub_self] at hconv
            go_enter Tryd.func60, Tryd.ntmps60
            go_wp2_with fail
            refine C.out.mono ?_
            rintro e w' ⟨rfl, rfl⟩
            simp only [ptup]
            go_wp2_with fail
            go_ret3
            exact ⟨rfl, rfl⟩
          · rw [if_neg hca] at hconv
            simp only [Option.map_some, WideShapes.add_plain] at hconv
            go_enter Tryd.func60, Tryd.ntmps60
            go_wp2_with fail
            refine C.out.mono ?_
            rintro e w' ⟨rfl, rfl⟩
            simp only [ptup]
            go_wp2_with fail
            go_ret3
            exact ⟨rfl, rfl⟩
    · have HE := Lib.hid (HG.out.trans (by rw [if_neg (by omega), if_pos he]))
      have hne : (e != 0) = true := by rw [bne_iff_ne]; exact he
      clear he
      go_enter Tryd.func60, Tryd.ntmps60
      go_wp2_with fail
      refine C.out.mono ?_
      rintro e w' ⟨rfl, rfl⟩
      simp only [ptup]
      go_wp2_with fail
      go_ret3
      exact ⟨by rw [HE.out]; rfl, rfl⟩
  · have HE := Lib.hid (HG.out.trans (by rw [if_pos rfl]))
    go_enter Tryd.func60, Tryd.ntmps60
    go_wp2_with fail
    go_ret3
    exact ⟨by rw [HE.out]; rfl, rfl⟩

theorem rgettext_any (l : List UInt8) (b : Nat) (A : Option Addr) (c : Nat) (w : World) (hb1 : 1 ≤ b) (hb7 : b ≤ 7) (hr : Rd w A (bv l)) (hm : l.length ≤ 140737488355328) (hc : l.length ≤ c) (hcc : c ≤ 9223372036854775807) :
    Calls Tryd.prog 60 #[.slice A l.length c, .int .i64 b] w fun e w' => e = .returned (tpgettext b l) ∧ w = w' := by
  have d1 : decide ((b : Int) < 1) = false := decide_eq_false (by omega)
  have d2 : decide ((7 : Int) < (b : Int)) = false := decide_eq_false (by omega)
  have d2' : decide (7 < b) = false := decide_eq_false (by omega)
  match l, hr, hm, hc with
  | [], _, _, _ =>
    have C := Lib.hid (rpget_nil b A c w hb1 (by omega))
    go_enter Tryd.func60, Tryd.ntmps60
    go_wp2_with fail
    refine C.out.mono ?_
    rintro e w' ⟨rfl, rfl⟩
    simp only [ptup]
    go_wp2_with fail
    go_ret3
    exact ⟨rfl, rfl⟩
  | x :: r, hr, hm, hc => exact rgettext_cons x r b A c w hb1 hb7 hr hm hc hcc
end Go.Proofs.YtdldipkbknhhoaaDoor

/- The document's fields: what a line tells, in plain Lean; it is what our reader tells. -/
namespace Go.Proofs.YtdldipkbknhhoaaDoor
open Go.RowKit

theorem res_ctt {P : Program} {fn : Func} {p t1 t2 : Tmp} {s : TypeId} (h : fn.results = #[.cell p s, .tmp t1, .tmp t2]) (tmps : Array Value) (w : World) (a : Addr) (x : Value) {u1 u2 : Value}
    (ha : tmps.getD p undef = .pointer (some a)) (hx : (loadVar s a).run P w = .ok x w) (h1 : tmps.getD t1 undef = u1) (h2 : tmps.getD t2 undef = u2) : (results fn tmps).run P w = .ok (.tuple #[x, u1, u2]) w := by
  subst h1 h2
  simp only [Array.getD_eq_getD_getElem?] at ha
  simp only [results, h]
  simp [Sem.run_bind, Result.andThen, ha, asAddr, hx]
set_option maxRecDepth 100000 in
set_option maxHeartbeats 2000000 in
theorem rfixed_far (w : World) : Calls Tryd.prog 58 #[] w fun e w' => ∃ g, e = .returned (.slice (some ⟨g, 0, none⟩) 16 16) ∧ w.heap.size ≤ g ∧ (∀ (N : Nat) (a b : ByteArray), fixed[N]? = some (⟨a, b⟩ : Fd) → w'.cell? ⟨g, N * 2, none⟩ = some (.string a) ∧ w'.cell? ⟨g, N * 2 + 1, none⟩ = some (.string b)) ∧ Below w.heap.size w w' := by
  go_enter Tryd.func58, Tryd.ntmps58
  go_wp2
  go_ret
  refine ⟨_, rfl, Nat.le_refl _, fun N a b h => ?_, (Below.refl _ w).alloc (Nat.le_refl _) _⟩
  obtain ⟨hN, e⟩ := List.getElem?_eq_some_iff.1 h
  obtain ⟨b', off', e1, x0, x1⟩ := load_fd (Rd.fresh_mark w (fdv fixed) _ _) hN
  injection e1 with e1
  injection e1 with e1 e2
  subst e1 e2
  rw [e, Nat.zero_add] at x0 x1
  exact ⟨x0, x1⟩

/-- The number of one of the fixed ones, b bits wide. -/
def rnum (b : Nat) (l : List UInt8) : Nat × Int × Int :=
  if (pget b l).2.2 ≠ 0 then (0, 0, (pget b l).2.2) else if 16 ≤ (pget b l).1 then (0, 0, 5) else ((pget b l).1.toNat, (pget b l).2.1, 0)
def rtail (l : List UInt8) (a : ByteArray) (k : Nat) : Fd × Int × Int :=
  if (pgettext 7 (l.drop k)).2.2 ≠ 0 then (fdz, 0, (pgettext 7 (l.drop k)).2.2)
  else if 400 < (pgettext 7 (l.drop k)).1.length then (fdz, 0, 4)
  else if valok ⟨(pgettext 7 (l.drop k)).1.toArray⟩ = false then (fdz, 0, 5)
  else (⟨a, ⟨(pgettext 7 (l.drop k)).1.toArray⟩⟩, (k : Int) + (pgettext 7 (l.drop k)).2.1, 0)
def rln : List UInt8 → Fd × Int × Int
  | [] => (fdz, 0, 5)
  | x :: r =>
    if x.toNat / 64 = 3 then (if (rnum 6 (x :: r)).2.2 ≠ 0 then (fdz, 0, (rnum 6 (x :: r)).2.2) else (fixed.getD (rnum 6 (x :: r)).1 fdz, (rnum 6 (x :: r)).2.1, 0))
    else if x.toNat / 16 = 5 then (if (rnum 4 (x :: r)).2.2 ≠ 0 then (fdz, 0, (rnum 4 (x :: r)).2.2) else rtail (x :: r) (fixed.getD (rnum 4 (x :: r)).1 fdz).name (rnum 4 (x :: r)).2.1.toNat)
    else if x.toNat / 16 = 2 then
      (if (pgettext 3 (x :: r)).2.2 ≠ 0 then (fdz, 0, (pgettext 3 (x :: r)).2.2)
       else if nameok ⟨(pgettext 3 (x :: r)).1.toArray⟩ = false then (fdz, 0, 5)
       else rtail (x :: r) ⟨(pgettext 3 (x :: r)).1.toArray⟩ (pgettext 3 (x :: r)).2.1.toNat)
    else (fdz, 0, 5)

theorem pgettext_pos (b : Nat) (l : List UInt8) (hb1 : 1 ≤ b) (hb7 : b ≤ 7) (h : (pgettext b l).2.2 = 0) : 1 ≤ (pgettext b l).2.1 := by
  cases l with
  | nil => simp [pgettext] at h
  | cons x r =>
    have hg := pget_ok b x r hb1 (by omega)
    unfold pgettext at h ⊢
    simp only at h ⊢
    split at h
    · simp at h
    · split at h
      · rename_i h1; exact absurd h h1
      · split at h
        · simp at h
        · split at h
          · simp at h
          · rename_i h1 h2 h3 h4
            have := hg (by simpa using h2)
            rw [if_neg h1, if_neg h2, if_neg h3, if_neg h4]
            simp only
            omega

/-- What rtail tells, beside pval. -/
theorem rtail_pval (l : List UInt8) (a : ByteArray) (k : Nat) (hk : k ≤ l.length) :
    (rtail l a k).2.2 = (pval (l.drop k) 0).2.1 ∧ ((rtail l a k).2.2 = 0 → (rtail l a k).1 = ⟨a, (pval (l.drop k) 0).2.2⟩ ∧ l.drop (rtail l a k).2.1.toNat = (pval (l.drop k) 0).1 ∧ (k : Int) + 1 ≤ (rtail l a k).2.1 ∧ (rtail l a k).2.1 ≤ l.length) := by
  have hb := pgettext_bd 7 (l.drop k) (by omega) (by omega)
  have hp := pgettext_pos 7 (l.drop k) (by omega) (by omega)
  have hld : (l.drop k).length = l.length - k := List.length_drop
  have hx : ptxt 7 (l.drop k) 0 = ((l.drop k).drop (pgettext 7 (l.drop k)).2.1.toNat, (pgettext 7 (l.drop k)).2.2, ⟨(pgettext 7 (l.drop k)).1.toArray⟩) := by unfold ptxt; rw [if_neg (by simp)]
  unfold rtail pval
  rw [hx]
  obtain ⟨⟨s, lg, er⟩, ht⟩ : ∃ t, pgettext 7 (l.drop k) = t := ⟨_, rfl⟩
  rw [ht] at hb hp ⊢
  have hsz : (⟨s.toArray⟩ : ByteArray).size = s.length := by simp [ByteArray.size]
  simp only [hsz] at hb hp ⊢
  by_cases h0 : er = 0
  · have := hp h0
    subst h0
    simp only [ne_eq, not_true_eq_false, if_false]
    by_cases h1 : 400 < s.length
    · rw [if_pos h1, if_pos h1]; simp
    · rw [if_neg h1, if_neg h1]
      cases hv : valok ⟨s.toArray⟩ with
      | false => simp
      | true =>
        rw [if_neg (by simp), if_pos rfl]
        refine ⟨rfl, fun _ => ⟨rfl, ?_, by simp only; omega, by simp only; omega⟩⟩
        simp only [List.drop_drop]
        congr 1
        omega
  · rw [if_pos h0, if_pos h0]
    exact ⟨rfl, fun h => absurd h h0⟩
theorem pval_err (l : List UInt8) (e : Int) (he : e ≠ 0) : (pval l e).2.1 = e := by
  unfold pval ptxt
  rw [if_pos he, if_pos he]
theorem rnum_pnum (b : Nat) (l : List UInt8) (hb1 : 1 ≤ b) (hb8 : b ≤ 8) : (rnum b l).2.2 = (pnum b l).2.1 ∧ ((rnum b l).2.2 = 0 → fixed.getD (rnum b l).1 fdz = (pnum b l).2.2 ∧ l.drop (rnum b l).2.1.toNat = (pnum b l).1 ∧ 1 ≤ (rnum b l).2.1 ∧ (rnum b l).2.1 ≤ l.length ∧ (rnum b l).1 < 16) := by
  have hb := pget_bd b l hb1 hb8
  unfold rnum pnum
  obtain ⟨⟨N, lg, er⟩, ht⟩ : ∃ t, pget b l = t := ⟨_, rfl⟩
  rw [ht] at hb ⊢
  simp only at hb ⊢
  by_cases h0 : er = 0
  · have := hb h0
    subst h0
    simp only [ne_eq, not_true_eq_false, if_false]
    by_cases h1 : 16 ≤ N
    · rw [if_pos h1, if_pos h1]; simp
    · rw [if_neg h1, if_neg h1]
      exact ⟨rfl, fun _ => ⟨rfl, rfl, by simp only; omega, by simp only; omega, by simp only; omega⟩⟩
  · rw [if_pos h0, if_pos h0]
    exact ⟨rfl, fun h => absurd h h0⟩
theorem rln_pln (x : UInt8) (r : List UInt8) : (rln (x :: r)).2.2 = (pln (x :: r)).2.1 ∧ ((rln (x :: r)).2.2 = 0 → (rln (x :: r)).1 = (pln (x :: r)).2.2 ∧ (x :: r).drop (rln (x :: r)).2.1.toNat = (pln (x :: r)).1 ∧ 1 ≤ (rln (x :: r)).2.1 ∧ (rln (x :: r)).2.1 ≤ (x :: r).length) := by
  rw [rln, pln]
  by_cases c1 : x.toNat / 64 = 3
  · rw [if_pos c1, if_pos c1]
    obtain ⟨h1, h2⟩ := rnum_pnum 6 (x :: r) (by omega) (by omega)
    by_cases h0 : (rnum 6 (x :: r)).2.2 = 0
    · obtain ⟨a1, a2, a3, a4, _⟩ := h2 h0
      rw [if_neg (by simpa using h0)]
      exact ⟨by rw [← h1, h0], fun _ => ⟨a1, a2, a3, a4⟩⟩
    · rw [if_pos h0]
      exact ⟨h1, fun h => absurd h h0⟩
  · rw [if_neg c1, if_neg c1]
    by_cases c2 : x.toNat / 16 = 5
    · rw [if_pos c2, if_pos c2]
      obtain ⟨h1, h2⟩ := rnum_pnum 4 (x :: r) (by omega) (by omega)
      by_cases h0 : (rnum 4 (x :: r)).2.2 = 0
      · obtain ⟨a1, a2, a3, a4, _⟩ := h2 h0
        rw [if_neg (by simpa using h0)]
        obtain ⟨b1, b2⟩ := rtail_pval (x :: r) (fixed.getD (rnum 4 (x :: r)).1 fdz).name (rnum 4 (x :: r)).2.1.toNat (by omega)
        rw [a2] at b1 b2
        rw [← h1, h0, ← a1]
        refine ⟨b1, fun h => ?_⟩
        obtain ⟨d1, d2, d3, d4⟩ := b2 h
        exact ⟨d1, d2, by omega, d4⟩
      · rw [if_pos h0]
        refine ⟨?_, fun h => absurd h h0⟩
        simp only
        rw [← h1, pval_err _ _ h0]
    · rw [if_neg c2, if_neg c2]
      by_cases c3 : x.toNat / 16 = 2
      · rw [if_pos c3, if_pos c3]
        have hb := pgettext_bd 3 (x :: r) (by omega) (by omega)
        have hp := pgettext_pos 3 (x :: r) (by omega) (by omega)
        have hx : ptxt 3 (x :: r) 0 = ((x :: r).drop (pgettext 3 (x :: r)).2.1.toNat, (pgettext 3 (x :: r)).2.2, ⟨(pgettext 3 (x :: r)).1.toArray⟩) := by unfold ptxt; rw [if_neg (by simp)]
        rw [hx]
        obtain ⟨⟨s, lg, er⟩, ht⟩ : ∃ t, pgettext 3 (x :: r) = t := ⟨_, rfl⟩
        rw [ht] at hb hp ⊢
        simp only at hb hp ⊢
        by_cases h0 : er = 0
        · rw [if_neg (by simpa using h0)]
          cases hv : nameok ⟨s.toArray⟩ with
          | false =>
            rw [if_pos rfl, if_pos ⟨h0, rfl⟩, pval_err _ _ (by omega)]
            simp
          | true =>
            have := hp h0
            rw [if_neg (by simp), if_neg (by simp), h0]
            obtain ⟨b1, b2⟩ := rtail_pval (x :: r) ⟨s.toArray⟩ lg.toNat (by omega)
            refine ⟨b1, fun h => ?_⟩
            obtain ⟨d1, d2, d3, d4⟩ := b2 h
            exact ⟨d1, d2, by omega, d4⟩
        · rw [if_pos h0, if_neg (fun h => h0 h.1), pval_err _ _ h0]
          exact ⟨rfl, fun h => absurd h h0⟩
      · rw [if_neg c3, if_neg c3, pval_err _ _ (by omega)]
        simp
end Go.Proofs.YtdldipkbknhhoaaDoor

/- The document's fields: line. (Printed by gen_fsD.py.) -/
namespace Go.Proofs.YtdldipkbknhhoaaDoor
open Go.RowKit

/-- What line keeps: the block of its result, that of its field, the bytes. -/
structure RL (w0 W : World) (g q : Nat) (A : Option Addr) (l : List UInt8) (x y : ByteArray) : Prop where
  res : HasRow W g 47 #[.string ⟨#[]⟩, .string ⟨#[]⟩]
  fld : HasRow W q 47 #[.string x, .string y]
  rd : Rd W A (bv l)
  bel : Below w0.heap.size w0 W
  lt : g < q
  ge : w0.heap.size ≤ g
  far : ∀ a, A = some a → a.block < w0.heap.size
section
variable {w0 W : World} {g q : Nat} {A : Option Addr} {l : List UInt8} {x y : ByteArray}
theorem below_setQ {w0 W : World} {k i : Nat} (b : Below w0.heap.size w0 W) (h : w0.heap.size ≤ k) (hlt : w0.heap.size ≤ W.heap.size) (v : Value) : Below w0.heap.size w0 (W.setCell ⟨k, i, none⟩ v) :=
  Fr.under b hlt ((Fr.refl (fun j => j = k) W).setCell (p := ⟨k, i, none⟩) (fun _ => rfl) v) (fun j hj _ => by omega)
theorem RL.fin (h : RL w0 W g q A l x y) (u v : Value) : HasRow ((W.setCell ⟨g, 0, none⟩ u).setCell ⟨g, 1, none⟩ v) g 47 #[u, v] ∧ Below w0.heap.size w0 ((W.setCell ⟨g, 0, none⟩ u).setCell ⟨g, 1, none⟩ v) :=
  ⟨h.res.set2 u v, below_setQ (below_setQ h.bel h.ge h.bel.size u) h.ge (below_setQ (k := g) (i := 0) h.bel h.ge h.bel.size u).size v⟩
theorem RL.put0 (h : RL w0 W g q A l x y) (a : ByteArray) : RL w0 (W.setCell ⟨q, 0, none⟩ (.string a)) g q A l a y :=
  ⟨h.res.other (by have := h.lt; omega) 0 _, heap_setCell_same W q 0 _ _ (.string a) h.fld, h.rd.fr (frp_cell W q 0 (.string a)) (fun _ b hb e => by have := h.far b hb; have := h.lt; have := h.ge; omega), below_setQ h.bel (by have := h.lt; have := h.ge; omega) h.bel.size _, h.lt, h.ge, h.far⟩
theorem RL.put1 (h : RL w0 W g q A l x y) (a : ByteArray) : RL w0 (W.setCell ⟨q, 1, none⟩ (.string a)) g q A l x a :=
  ⟨h.res.other (by have := h.lt; omega) 1 _, heap_setCell_same W q 1 _ _ (.string a) h.fld, h.rd.fr (frp_cell W q 1 (.string a)) (fun _ b hb e => by have := h.far b hb; have := h.lt; have := h.ge; omega), below_setQ h.bel (by have := h.lt; have := h.ge; omega) h.bel.size _, h.lt, h.ge, h.far⟩
end

set_option maxRecDepth 100000 in
set_option maxHeartbeats 8000000 in
theorem rline_any (x : UInt8) (r : List UInt8) (A : Option Addr) (n c : Nat) (w : World) (hr : Rd w A (bv (x :: r))) (hn : (x :: r).length = n) (hnc : n ≤ c) (hcc : c ≤ 9223372036854775807) (hsm : n ≤ 1000000) (fa fb : ByteArray) (lg er : Int) (hp : rln (x :: r) = (⟨fa, fb⟩, lg, er)) :
    Calls Tryd.prog 42 #[.slice A n c] w fun en w' => en = .returned (.tuple #[.agg #[.string fa, .string fb], .int .i64 lg, .int .i64 er]) ∧ Below w.heap.size w w' := by
  obtain ⟨bl, off, rfl, h0⟩ := hr.at_ (k := 0) (by simp)
  simp only [bv, List.map_cons, List.getElem_cons_zero, Nat.add_zero] at h0
  have hbl := World.block_lt_of_cell? w _ h0
  simp only at hbl
  have hn1 : 0 < n := by rw [← hn]; simp
  have hn1I : (0 : Int) < (n : Int) := by omega
  obtain ⟨g, hg⟩ : ∃ g, w.heap.size = g := ⟨_, rfl⟩
  have hr2 := Lib.hid hr
  replace h0 := Lib.hid h0
  clear hr
  rw [rln] at hp
  replace hp := Lib.hid hp
  go_enter Tryd.func42, Tryd.ntmps42
  go_wp2_with fail
  try rw [hg]
  have R1 := HasRow.new w 47 #[.string ⟨#[]⟩, .string ⟨#[]⟩]
  rw [hg] at R1
  have B1 := (Below.refl _ w).alloc (Nat.le_refl _) (.cells #[.string ⟨#[]⟩, .string ⟨#[]⟩] 47)
  have S1 := R1.lt
  refine (rfixed_far _).mono ?_
  rintro en w1 ⟨gF, rfl, hgF, rdF, b1⟩
  have S2 := b1.size
  have R2 := R1.below b1
  have B2 := B1.trans (b1.mono B1.size)
  obtain ⟨q, hq⟩ : ∃ q, w1.heap.size = q := ⟨_, rfl⟩
  have hgq : g < q := by omega
  obtain ⟨W1, hW1⟩ : ∃ W1, w1.alloc (.cells #[.string ⟨#[]⟩, .string ⟨#[]⟩] 47) = W1 := ⟨_, rfl⟩
  have R3 := HasRow.new w1 47 #[.string ⟨#[]⟩, .string ⟨#[]⟩]
  rw [hq] at R3
  have k0 := R3.cell 0 _ rfl
  have k1 := R3.cell 1 _ rfl
  have kz0 := R3.frozen 0
  have kz1 := R3.frozen 1
  have B3 := B2.alloc B2.size (.cells #[.string ⟨#[]⟩, .string ⟨#[]⟩] 47)
  have F3 : Fr (fun k => k = q) (w1.alloc (.cells #[.string ⟨#[]⟩, .string ⟨#[]⟩] 47)) W1 := by rw [← hW1]; exact Fr.refl _ _
  have HR : Hid (RL w W1 g q (some ⟨bl, off, none⟩) (x :: r) ⟨#[]⟩ ⟨#[]⟩) := Lib.hid ⟨(R2.alloc _).fr F3 (by omega), by rw [← hW1]; exact R3, (hr2.out.below B3).fr F3 (fun _ a ha e => by injection ha with ha; subst ha; simp only at e; omega), Fr.under B3 B3.size F3 (fun k hk _ => by omega), hgq, by omega, fun a ha => by injection ha with ha; subst ha; exact hbl⟩
  have HF : Hid (∀ (N : Nat) (a b : ByteArray), fixed[N]? = some (⟨a, b⟩ : Fd) → W1.cell? ⟨gF, N * 2, none⟩ = some (.string a) ∧ W1.cell? ⟨gF, N * 2 + 1, none⟩ = some (.string b)) := Lib.hid (fun N a b h => by
    obtain ⟨h1, h2⟩ := rdF N a b h
    have l1 := World.block_lt_of_cell? w1 _ h1
    have Fa : Fr (fun k => k = q) w1 W1 := ((Fr.refl (fun k => k = q) w1).alloc _).trans F3
    exact ⟨(Fa.cell (World.block_lt_of_cell? w1 _ h1) (by simp only at l1 ⊢; omega)).trans h1, (Fa.cell (World.block_lt_of_cell? w1 _ h2) (by simp only at l1 ⊢; omega)).trans h2⟩)
  have hx : W1.cell? ⟨bl, off, none⟩ = some (.int .u8 x.toNat) := by rw [HR.out.bel.cell (p := ⟨bl, off, none⟩) hbl]; exact h0.out
  replace hq := Lib.hid hq
  replace hW1 := Lib.hid hW1
  replace hg := Lib.hid hg
  clear k0 k1 kz0 kz1
  clear R1 B1 S1 hgF rdF b1 S2 R2 B2 R3 B3 F3
  go_upto_block 0 with fail
  rw [hq.out, hW1.out]
  obtain ⟨X, hX⟩ : ∃ X, x.toNat = X := ⟨_, rfl⟩
  rw [hX] at hx
  have hX256 : X < 256 := by rw [← hX]; exact x.toNat_lt
  replace hp := hp.out
  rw [hX] at hp
  replace hX := Lib.hid hX
  go_cut [7] from 8 to 109 (fun y wx => ∃ (k : Nat) (a : ByteArray), y = .int .i64 k ∧ k ≤ n ∧ Hid (RL w wx g q (some ⟨bl, off, none⟩) (x :: r) a ⟨#[]⟩) ∧ Hid (rtail (x :: r) a k = (⟨fa, fb⟩, lg, er)))
  case first =>
    have f0 := HR.out.fld.cell 0 _ rfl
    have f1 := HR.out.fld.cell 1 _ rfl
    have z0 := HR.out.fld.frozen 0
    have z1 := HR.out.fld.frozen 1
    have g0 := HR.out.res.cell 0 _ rfl
    have g1 := HR.out.res.cell 1 _ rfl
    have gz0 := HR.out.res.frozen 0
    have gz1 := HR.out.res.frozen 1
    by_cases c1 : X / 64 = 3
    · rw [if_pos c1] at hp
      have t1 : decide ((192 : Int) ≤ (X : Int)) = true := decide_eq_true (by omega)
      have t1' : decide (192 ≤ X) = true := decide_eq_true (by omega)
      clear c1
      have PG := rpget_any (x :: r) 6 (some ⟨bl, off, none⟩) c W1 (by omega) (by omega) HR.out.rd (by rw [hn]; omega)
      have hbd := pget_bd 6 (x :: r) (by omega) (by omega)
      rw [hn] at PG hbd
      unfold rnum at hp
      obtain ⟨N, hN⟩ : ∃ N, (pget 6 (x :: r)).1 = N := ⟨_, rfl⟩
      obtain ⟨M, hM⟩ : ∃ M, (pget 6 (x :: r)).2.1 = M := ⟨_, rfl⟩
      obtain ⟨E, hE⟩ : ∃ E, (pget 6 (x :: r)).2.2 = E := ⟨_, rfl⟩
      unfold ptup at PG
      rw [hN, hM, hE] at PG hp hbd
      replace hN := Lib.hid hN
      replace hM := Lib.hid hM
      replace hE := Lib.hid hE
      replace PG := Lib.hid PG
      by_cases hE0 : E = 0
      · obtain ⟨n0, n1, m1, m2⟩ := hbd hE0
        subst hE0
        simp only [ne_eq, not_true_eq_false, if_false] at hp
        by_cases h16 : 16 ≤ N
        · rw [if_pos h16] at hp
          simp only [ne_eq, show ¬ ((5 : Int) = 0) by omega, not_false_eq_true, if_true] at hp
          simp only [Prod.mk.injEq, Fd.mk.injEq, fdz] at hp
          obtain ⟨⟨rfl, rfl⟩, rfl, rfl⟩ := hp
          have d1 : decide (16 ≤ N) = true := decide_eq_true h16
          go_wp2_with fail
          refine PG.out.mono ?_
          rintro en w3 ⟨rfl, rfl⟩
          have HO := Lib.hid (HR.out.fin (.string ⟨#[]⟩) (.string ⟨#[]⟩))
          go_wp2_with fail
          refine bodyPost_ret (v := .tuple #[.agg #[.string ⟨#[]⟩, .string ⟨#[]⟩], .int .i64 0, .int .i64 5]) (res_ctt rfl _ _ ⟨g, 0, none⟩ _ rfl (loadF HO.out.1) rfl rfl) rfl ?_
          exact ⟨rfl, HO.out.2⟩
        · rw [if_neg h16] at hp
          simp only [ne_eq, not_true_eq_false, if_false] at hp
          obtain ⟨N, rfl⟩ : ∃ N' : Nat, N = N' := ⟨N.toNat, by omega⟩
          obtain ⟨M, rfl⟩ : ∃ M' : Nat, M = M' := ⟨M.toNat, by omega⟩
          simp only [Int.toNat_natCast] at hp
          have hN16 : N < 16 := by omega
          have d1 : decide (16 ≤ (N : Int)) = false := decide_eq_false h16
          have d1' : decide (16 ≤ N) = false := decide_eq_false (by omega)
          have hN16I : (N : Int) < 16 := by omega
          obtain ⟨⟨na, nb⟩, hf⟩ : ∃ f, fixed.getD N fdz = f := ⟨_, rfl⟩
          have hfx : fixed[N]? = some ⟨na, nb⟩ := by
            rw [List.getD_eq_getElem?_getD] at hf
            rw [List.getElem?_eq_getElem (show N < fixed.length from hN16)] at hf ⊢
            rw [← hf]; rfl
          rw [hf] at hp
          obtain ⟨y0, y1⟩ := HF.out N na nb hfx
          replace hf := Lib.hid hf
          replace hfx := Lib.hid hfx
          simp only [Prod.mk.injEq, Fd.mk.injEq] at hp
          obtain ⟨⟨rfl, rfl⟩, rfl, rfl⟩ := hp
          go_wp2_with fail
          refine PG.out.mono ?_
          rintro en w3 ⟨rfl, rfl⟩
          have HO := Lib.hid (HR.out.fin (.string na) (.string nb))
          go_wp2_with fail
          refine bodyPost_ret (v := .tuple #[.agg #[.string na, .string nb], .int .i64 M, .int .i64 0]) (res_ctt rfl _ _ ⟨g, 0, none⟩ _ rfl (loadF HO.out.1) rfl rfl) rfl ?_
          exact ⟨rfl, HO.out.2⟩
      · clear hbd
        rw [if_pos hE0] at hp
        simp only [ne_eq, hE0, not_false_eq_true, if_true] at hp
        simp only [Prod.mk.injEq, Fd.mk.injEq, fdz] at hp
        obtain ⟨⟨rfl, rfl⟩, rfl, rfl⟩ := hp
        have d1 : (E == 0) = false := by rw [beq_eq_false_iff_ne]; exact hE0
        have d1' : (E != 0) = true := by rw [bne_iff_ne]; exact hE0
        go_wp2_with fail
        refine PG.out.mono ?_
        rintro en w3 ⟨rfl, rfl⟩
        have HO := Lib.hid (HR.out.fin (.string ⟨#[]⟩) (.string ⟨#[]⟩))
        go_wp2_with fail
        refine bodyPost_ret (v := .tuple #[.agg #[.string ⟨#[]⟩, .string ⟨#[]⟩], .int .i64 0, .int .i64 E]) (res_ctt rfl _ _ ⟨g, 0, none⟩ _ rfl (loadF HO.out.1) rfl rfl) rfl ?_
        exact ⟨rfl, HO.out.2⟩
    · rw [if_neg c1] at hp
      have t1 : decide ((192 : Int) ≤ (X : Int)) = false := decide_eq_false (by omega)
      have t1' : decide (192 ≤ X) = false := decide_eq_false (by omega)
      clear c1
      by_cases c2 : X / 16 = 5
      · rw [if_pos c2] at hp
        have t2 : ((X : Int) / 16 == 5) = true := by rw [beq_iff_eq]; omega
        clear c2
        have PG := rpget_any (x :: r) 4 (some ⟨bl, off, none⟩) c W1 (by omega) (by omega) HR.out.rd (by rw [hn]; omega)
        have hbd := pget_bd 4 (x :: r) (by omega) (by omega)
        rw [hn] at PG hbd
        unfold rnum at hp
        obtain ⟨N, hN⟩ : ∃ N, (pget 4 (x :: r)).1 = N := ⟨_, rfl⟩
        obtain ⟨M, hM⟩ : ∃ M, (pget 4 (x :: r)).2.1 = M := ⟨_, rfl⟩
        obtain ⟨E, hE⟩ : ∃ E, (pget 4 (x :: r)).2.2 = E := ⟨_, rfl⟩
        unfold ptup at PG
        rw [hN, hM, hE] at PG hp hbd
        replace hN := Lib.hid hN
        replace hM := Lib.hid hM
        replace hE := Lib.hid hE
        replace PG := Lib.hid PG
        by_cases hE0 : E = 0
        · obtain ⟨n0, n1, m1, m2⟩ := hbd hE0
          subst hE0
          simp only [ne_eq, not_true_eq_false, if_false] at hp
          by_cases h16 : 16 ≤ N
          · rw [if_pos h16] at hp
            simp only [ne_eq, show ¬ ((5 : Int) = 0) by omega, not_false_eq_true, if_true] at hp
            simp only [Prod.mk.injEq, Fd.mk.injEq, fdz] at hp
            obtain ⟨⟨rfl, rfl⟩, rfl, rfl⟩ := hp
            have d1 : decide (16 ≤ N) = true := decide_eq_true h16
            go_wp2_with fail
            refine PG.out.mono ?_
            rintro en w3 ⟨rfl, rfl⟩
            have HO := Lib.hid (HR.out.fin (.string ⟨#[]⟩) (.string ⟨#[]⟩))
            go_wp2_with fail
            refine bodyPost_ret (v := .tuple #[.agg #[.string ⟨#[]⟩, .string ⟨#[]⟩], .int .i64 0, .int .i64 5]) (res_ctt rfl _ _ ⟨g, 0, none⟩ _ rfl (loadF HO.out.1) rfl rfl) rfl ?_
            exact ⟨rfl, HO.out.2⟩
          · rw [if_neg h16] at hp
            simp only [ne_eq, not_true_eq_false, if_false] at hp
            obtain ⟨N, rfl⟩ : ∃ N' : Nat, N = N' := ⟨N.toNat, by omega⟩
            obtain ⟨M, rfl⟩ : ∃ M' : Nat, M = M' := ⟨M.toNat, by omega⟩
            simp only [Int.toNat_natCast] at hp
            have hN16 : N < 16 := by omega
            have d1 : decide (16 ≤ (N : Int)) = false := decide_eq_false h16
            have d1' : decide (16 ≤ N) = false := decide_eq_false (by omega)
            have hN16I : (N : Int) < 16 := by omega
            obtain ⟨⟨na, nb⟩, hf⟩ : ∃ f, fixed.getD N fdz = f := ⟨_, rfl⟩
            have hfx : fixed[N]? = some ⟨na, nb⟩ := by
              rw [List.getD_eq_getElem?_getD] at hf
              rw [List.getElem?_eq_getElem (show N < fixed.length from hN16)] at hf ⊢
              rw [← hf]; rfl
            rw [hf] at hp
            obtain ⟨y0, y1⟩ := HF.out N na nb hfx
            replace hf := Lib.hid hf
            replace hfx := Lib.hid hfx
            have HR2 := Lib.hid (HR.out.put0 na)
            replace hp := Lib.hid hp
            have hMn : M ≤ n := by omega
            go_wp2_with fail
            refine PG.out.mono ?_
            rintro en w3 ⟨rfl, rfl⟩
            go_wp2_with fail
            go_meet
            exact ⟨M, na, rfl, hMn, HR2, hp⟩
        · clear hbd
          rw [if_pos hE0] at hp
          simp only [ne_eq, hE0, not_false_eq_true, if_true] at hp
          simp only [Prod.mk.injEq, Fd.mk.injEq, fdz] at hp
          obtain ⟨⟨rfl, rfl⟩, rfl, rfl⟩ := hp
          have d1 : (E == 0) = false := by rw [beq_eq_false_iff_ne]; exact hE0
          have d1' : (E != 0) = true := by rw [bne_iff_ne]; exact hE0
          go_wp2_with fail
          refine PG.out.mono ?_
          rintro en w3 ⟨rfl, rfl⟩
          have HO := Lib.hid (HR.out.fin (.string ⟨#[]⟩) (.string ⟨#[]⟩))
          go_wp2_with fail
          refine bodyPost_ret (v := .tuple #[.agg #[.string ⟨#[]⟩, .string ⟨#[]⟩], .int .i64 0, .int .i64 E]) (res_ctt rfl _ _ ⟨g, 0, none⟩ _ rfl (loadF HO.out.1) rfl rfl) rfl ?_
          exact ⟨rfl, HO.out.2⟩
      · rw [if_neg c2] at hp
        have t2 : ((X : Int) / 16 == 5) = false := by rw [beq_eq_false_iff_ne]; omega
        clear c2
        by_cases c3 : X / 16 = 2
        · rw [if_pos c3] at hp
          have t3 : ((X : Int) / 16 == 2) = true := by rw [beq_iff_eq]; omega
          clear c3
          have PG := rgettext_any (x :: r) 3 (some ⟨bl, off, none⟩) c W1 (by omega) (by omega) HR.out.rd (by rw [hn]; omega) (by rw [hn]; exact hnc) hcc
          have hbd := pgettext_bd 3 (x :: r) (by omega) (by omega)
          rw [hn] at PG hbd
          obtain ⟨⟨sl, M, E⟩, ht⟩ : ∃ t, pgettext 3 (x :: r) = t := ⟨_, rfl⟩
          unfold tpgettext at PG
          rw [ht] at PG hp hbd
          simp only at PG hp hbd
          obtain ⟨s, hs⟩ : ∃ s : ByteArray, (⟨sl.toArray⟩ : ByteArray) = s := ⟨_, rfl⟩
          have hss : s.size = sl.length := by rw [← hs]; simp [ByteArray.size]
          rw [hs] at PG hp
          replace ht := Lib.hid ht
          replace hs := Lib.hid hs
          replace PG := Lib.hid PG
          by_cases hE0 : E = 0
          · subst hE0
            simp only [ne_eq, not_true_eq_false, if_false] at hp
            have NM := Lib.hid (rname_any s W1 (by omega))
            obtain ⟨V, hV⟩ : ∃ V, nameok s = V := ⟨_, rfl⟩
            rw [hV] at hp NM
            replace hV := Lib.hid hV
            cases V with
            | false =>
              rw [if_pos rfl] at hp
              simp only [Prod.mk.injEq, Fd.mk.injEq, fdz] at hp
              obtain ⟨⟨rfl, rfl⟩, rfl, rfl⟩ := hp
              clear hbd hss
              go_wp2_with fail
              refine PG.out.mono ?_
              rintro en w3 ⟨rfl, rfl⟩
              go_wp2_with fail
              refine NM.out.mono ?_
              rintro en w3 ⟨rfl, rfl⟩
              have HO := Lib.hid (HR.out.fin (.string ⟨#[]⟩) (.string ⟨#[]⟩))
              go_wp2_with fail
              refine bodyPost_ret (v := .tuple #[.agg #[.string ⟨#[]⟩, .string ⟨#[]⟩], .int .i64 0, .int .i64 5]) (res_ctt rfl _ _ ⟨g, 0, none⟩ _ rfl (loadF HO.out.1) rfl rfl) rfl ?_
              exact ⟨rfl, HO.out.2⟩
            | true =>
              rw [if_neg (by simp)] at hp
              obtain ⟨M, rfl⟩ : ∃ M' : Nat, M = M' := ⟨M.toNat, by omega⟩
              simp only [Int.toNat_natCast] at hp
              have HR2 := Lib.hid (HR.out.put0 s)
              replace hp := Lib.hid hp
              have hMn : M ≤ n := by omega
              clear hbd hss
              go_wp2_with fail
              refine PG.out.mono ?_
              rintro en w3 ⟨rfl, rfl⟩
              go_wp2_with fail
              refine NM.out.mono ?_
              rintro en w3 ⟨rfl, rfl⟩
              go_wp2_with fail
              go_meet
              exact ⟨M, s, rfl, hMn, HR2, hp⟩
          · clear hbd hss
            rw [if_pos hE0] at hp
            simp only [Prod.mk.injEq, Fd.mk.injEq, fdz] at hp
            obtain ⟨⟨rfl, rfl⟩, rfl, rfl⟩ := hp
            have d1 : (E == 0) = false := by rw [beq_eq_false_iff_ne]; exact hE0
            have d1' : (E != 0) = true := by rw [bne_iff_ne]; exact hE0
            go_wp2_with fail
            refine PG.out.mono ?_
            rintro en w3 ⟨rfl, rfl⟩
            have HO := Lib.hid (HR.out.fin (.string ⟨#[]⟩) (.string ⟨#[]⟩))
            go_wp2_with fail
            refine bodyPost_ret (v := .tuple #[.agg #[.string ⟨#[]⟩, .string ⟨#[]⟩], .int .i64 0, .int .i64 E]) (res_ctt rfl _ _ ⟨g, 0, none⟩ _ rfl (loadF HO.out.1) rfl rfl) rfl ?_
            exact ⟨rfl, HO.out.2⟩
        · rw [if_neg c3] at hp
          have t3 : ((X : Int) / 16 == 2) = false := by rw [beq_eq_false_iff_ne]; omega
          clear c3
          simp only [Prod.mk.injEq, Fd.mk.injEq, fdz] at hp
          obtain ⟨⟨rfl, rfl⟩, rfl, rfl⟩ := hp
          have HO := Lib.hid (HR.out.fin (.string ⟨#[]⟩) (.string ⟨#[]⟩))
          go_wp2_with fail
          refine bodyPost_ret (v := .tuple #[.agg #[.string ⟨#[]⟩, .string ⟨#[]⟩], .int .i64 0, .int .i64 5]) (res_ctt rfl _ _ ⟨g, 0, none⟩ _ rfl (loadF HO.out.1) rfl rfl) rfl ?_
          exact ⟨rfl, HO.out.2⟩
  case rest =>
    clear hp HF hx HR hX256
    obtain ⟨k, a, rfl, hk, HR, HP⟩ := hcut
    have f0 := HR.out.fld.cell 0 _ rfl
    have f1 := HR.out.fld.cell 1 _ rfl
    have z0 := HR.out.fld.frozen 0
    have z1 := HR.out.fld.frozen 1
    have g0 := HR.out.res.cell 0 _ rfl
    have g1 := HR.out.res.cell 1 _ rfl
    have gz0 := HR.out.res.frozen 0
    have gz1 := HR.out.res.frozen 1
    have hp := HP.out
    unfold rtail at hp
    clear HP
    obtain ⟨X2, hX, hXc⟩ := cut_l (P := Tryd.prog) Tryd.underlying23 infoB (some ⟨bl, off, none⟩) n c k hk hnc
    have rdX := hXc.bytes' HR.out.rd hn hnc
    have PG := rgettext_any ((x :: r).drop k) 7 X2 (c - k) _ (by omega) (by omega) rdX (by rw [List.length_drop, hn]; omega) (by rw [List.length_drop, hn]; omega) (by omega)
    have hbd := pgettext_bd 7 ((x :: r).drop k) (by omega) (by omega)
    rw [List.length_drop, hn] at PG hbd
    obtain ⟨n2, hn2⟩ : ∃ n2, n - k = n2 := ⟨_, rfl⟩
    obtain ⟨c2, hc2⟩ : ∃ c2, c - k = c2 := ⟨_, rfl⟩
    rw [hn2, hc2] at hX PG
    rw [hn2] at hbd
    have hn2k : n2 + k = n := by omega
    obtain ⟨⟨sl, M, E⟩, ht⟩ : ∃ t, pgettext 7 ((x :: r).drop k) = t := ⟨_, rfl⟩
    unfold tpgettext at PG
    rw [ht] at PG hp hbd
    simp only at PG hp hbd
    obtain ⟨s, hs⟩ : ∃ s : ByteArray, (⟨sl.toArray⟩ : ByteArray) = s := ⟨_, rfl⟩
    obtain ⟨sz, hsz⟩ : ∃ sz, s.size = sz := ⟨_, rfl⟩
    have hss : sl.length = sz := by rw [← hsz, ← hs]; simp [ByteArray.size]
    rw [hs] at PG hp
    rw [hss] at hp hbd
    obtain ⟨hM0, hM1, hsl⟩ := hbd
    replace ht := Lib.hid ht
    replace hs := Lib.hid hs
    replace hss := Lib.hid hss
    replace hn2 := Lib.hid hn2
    replace hc2 := Lib.hid hc2
    replace PG := Lib.hid PG
    clear rdX hXc
    by_cases hE0 : E = 0
    · subst hE0
      simp only [ne_eq, not_true_eq_false, if_false] at hp
      by_cases h400 : 400 < sz
      · rw [if_pos h400] at hp
        simp only [Prod.mk.injEq, Fd.mk.injEq, fdz] at hp
        obtain ⟨⟨rfl, rfl⟩, rfl, rfl⟩ := hp
        have d1 : decide (400 < sz) = true := decide_eq_true h400
        have d1' : decide ((400 : Int) < (sz : Int)) = true := decide_eq_true (by omega)
        go_wp2_with fail
        refine PG.out.mono ?_
        rintro en w3 ⟨rfl, rfl⟩
        have HO := Lib.hid (HR.out.fin (.string ⟨#[]⟩) (.string ⟨#[]⟩))
        go_wp2_with fail
        refine bodyPost_ret (v := .tuple #[.agg #[.string ⟨#[]⟩, .string ⟨#[]⟩], .int .i64 0, .int .i64 4]) (res_ctt rfl _ _ ⟨g, 0, none⟩ _ rfl (loadF HO.out.1) rfl rfl) rfl ?_
        exact ⟨rfl, HO.out.2⟩
      · rw [if_neg h400] at hp
        have d1 : decide (400 < sz) = false := decide_eq_false h400
        have d1' : decide ((400 : Int) < (sz : Int)) = false := decide_eq_false (by omega)
        have VM := Lib.hid (fun W => rval_any s W (by omega))
        obtain ⟨V, hV⟩ : ∃ V, valok s = V := ⟨_, rfl⟩
        rw [hV] at hp VM
        replace hV := Lib.hid hV
        cases V with
        | false =>
          rw [if_pos rfl] at hp
          simp only [Prod.mk.injEq, Fd.mk.injEq, fdz] at hp
          obtain ⟨⟨rfl, rfl⟩, rfl, rfl⟩ := hp
          go_wp2_with fail
          refine PG.out.mono ?_
          rintro en w3 ⟨rfl, rfl⟩
          go_wp2_with fail
          refine (VM.out _).mono ?_
          rintro en w3 ⟨rfl, rfl⟩
          have HO := Lib.hid (HR.out.fin (.string ⟨#[]⟩) (.string ⟨#[]⟩))
          go_wp2_with fail
          refine bodyPost_ret (v := .tuple #[.agg #[.string ⟨#[]⟩, .string ⟨#[]⟩], .int .i64 0, .int .i64 5]) (res_ctt rfl _ _ ⟨g, 0, none⟩ _ rfl (loadF HO.out.1) rfl rfl) rfl ?_
          exact ⟨rfl, HO.out.2⟩
        | true =>
          rw [if_neg (by simp)] at hp
          obtain ⟨M, rfl⟩ : ∃ M' : Nat, M = M' := ⟨M.toNat, by omega⟩
          simp only [Prod.mk.injEq, Fd.mk.injEq] at hp
          obtain ⟨⟨rfl, rfl⟩, rfl, rfl⟩ := hp
          have HR2 := Lib.hid (HR.out.put1 s)
          have u0 := HR2.out.fld.cell 0 _ rfl
          have u1 := HR2.out.fld.cell 1 _ rfl
          have ug0 := HR2.out.res.cell 0 _ rfl
          have ug1 := HR2.out.res.cell 1 _ rfl
          have ugz0 := HR2.out.res.frozen 0
          have ugz1 := HR2.out.res.frozen 1
          have HO := Lib.hid (HR2.out.fin (.string a) (.string s))
          go_wp2_with fail
          refine PG.out.mono ?_
          rintro en w3 ⟨rfl, rfl⟩
          go_wp2_with fail
          refine (VM.out _).mono ?_
          rintro en w3 ⟨rfl, rfl⟩
          go_wp2_with fail
          refine bodyPost_ret (v := .tuple #[.agg #[.string a, .string s], .int .i64 ((k : Int) + M), .int .i64 0]) (res_ctt rfl _ _ ⟨g, 0, none⟩ _ rfl (loadF HO.out.1) rfl rfl) rfl ?_
          exact ⟨rfl, HO.out.2⟩
    · rw [if_pos hE0] at hp
      simp only [Prod.mk.injEq, Fd.mk.injEq, fdz] at hp
      obtain ⟨⟨rfl, rfl⟩, rfl, rfl⟩ := hp
      have d1 : (E == 0) = false := by rw [beq_eq_false_iff_ne]; exact hE0
      have d1' : (E != 0) = true := by rw [bne_iff_ne]; exact hE0
      go_wp2_with fail
      refine PG.out.mono ?_
      rintro en w3 ⟨rfl, rfl⟩
      have HO := Lib.hid (HR.out.fin (.string ⟨#[]⟩) (.string ⟨#[]⟩))
      go_wp2_with fail
      refine bodyPost_ret (v := .tuple #[.agg #[.string ⟨#[]⟩, .string ⟨#[]⟩], .int .i64 0, .int .i64 E]) (res_ctt rfl _ _ ⟨g, 0, none⟩ _ rfl (loadF HO.out.1) rfl rfl) rfl ?_
      exact ⟨rfl, HO.out.2⟩
end Go.Proofs.YtdldipkbknhhoaaDoor

/- The document's fields: Get answers as ours. -/
namespace Go.Proofs.YtdldipkbknhhoaaDoor
open Go.RowKit

set_option maxRecDepth 100000 in
set_option maxHeartbeats 8000000 in
theorem rfget_any (l : List UInt8) (A : Option Addr) (c n : Nat) (w : World) (hn : l.length = n) (hr : Rd w A (bv l)) (hc : n ≤ c) (hcc : c ≤ 9223372036854775807) (hl : n ≤ 1000000) :
    Calls Tryd.prog 31 #[.slice A n c] w (RetG w (fget l)) := by
  rcases l with _ | ⟨x, _ | ⟨y, r⟩⟩
  · have hn0 : n = 0 := hn.symm
    subst hn0
    go_enter Tryd.func31, Tryd.ntmps31
    go_wp2_with fail
    go_ret2
    exact ⟨none, 0, rfl, World.ownsRow_nil _ _ _ _, Below.refl _ _⟩
  · have hn0 : n = 1 := hn.symm
    subst hn0
    go_enter Tryd.func31, Tryd.ntmps31
    go_wp2_with fail
    go_ret2
    exact ⟨none, 0, rfl, World.ownsRow_nil _ _ _ _, Below.refl _ _⟩
  · simp only [List.length_cons] at hn
    obtain ⟨b, off, rfl, h0⟩ := hr.at_ (k := 0) (by simp)
    obtain ⟨b', off', e1, h1⟩ := hr.at_ (k := 1) (by simp)
    injection e1 with e1
    injection e1 with e1 e2
    subst e1 e2
    simp only [bv, List.map_cons, List.getElem_cons_zero, List.getElem_cons_succ, Nat.add_zero] at h0 h1
    have hblt := World.block_lt_of_cell? w _ h0
    simp only at hblt
    have hn2 : 2 ≤ n := by omega
    have d0 : decide (n < 2) = false := decide_eq_false (by omega)
    have d0' : decide ((n : Int) < 2) = false := decide_eq_false (by omega)
    have hI0 : (0 : Int) < (n : Int) := by omega
    have hI1 : (1 : Int) < (n : Int) := by omega
    by_cases hz : x = 0 ∧ y = 0
    · obtain ⟨rfl, rfl⟩ := hz
      have hg : Hid (fget (0 :: 0 :: r) = fgl 17 r []) := Lib.hid (by unfold fget; rw [if_neg (by simp), if_neg (by simp)]; rfl)
      obtain ⟨X, hX, hXc⟩ := cut_l (P := Tryd.prog) Tryd.underlying23 infoB (some ⟨b, off, none⟩) n c 2 hn2 hc
      obtain ⟨n2, hn2e⟩ : ∃ n2, n - 2 = n2 := ⟨_, rfl⟩
      obtain ⟨c2, hc2e⟩ : ∃ c2, c - 2 = c2 := ⟨_, rfl⟩
      rw [hn2e, hc2e] at hX
      replace hX : ∀ w : World, (Instr.sliceAt 23 (.slice (some ⟨b, off, none⟩) n c) (some (.int .i64 2)) none none).run Tryd.prog w = .ok (.slice X n2 c2) w := hX
      have hrX := Lib.hid (hXc.bytes' hr (by simp; omega) hc)
      have hXlt : Hid (∀ a, X = some a → a.block < w.heap.size) := Lib.hid (fun a ha => by
        obtain ⟨a0, q1, q2⟩ := hXc.blk a ha
        injection q1 with q1
        subst q1
        simp only at q2
        omega)
      have hn2b : n2 ≤ c2 ∧ c2 ≤ 9223372036854775807 ∧ n2 ≤ 1000000 := by omega
      have hrl : Hid (r.length = n2) := Lib.hid (by omega)
      replace hn2e := Lib.hid hn2e
      replace hc2e := Lib.hid hc2e
      clear hXc hr
      go_enter Tryd.func31, Tryd.ntmps31
      go_wp2_with fail
      obtain ⟨p, hp⟩ : ∃ p, w.heap.size = p := ⟨_, rfl⟩
      rw [hp] at hXlt
      clear h0 h1 d0 d0' hI0 hI1 hX hblt
      go_loopw [0, 4] (fun vb v wr => ∃ (acc : List Fd) (k c4 : Nat) (A4 : Option Addr) (l1 : List UInt8) (A1 : Option Addr) (n1 c1 : Nat), acc.length = k ∧ k ≤ 16 ∧ v = .slice A4 k c4 ∧ vb = .slice A1 n1 c1 ∧ (n1 ≤ c1 ∧ c1 ≤ 9223372036854775807 ∧ n1 ≤ 1000000) ∧ Hid (l1.length = n1 ∧ Rd wr A1 (bv l1) ∧ (∀ a, A1 = some a → a.block < p) ∧ fgl (17 - k) l1 acc = fgl 17 r [] ∧ wr.ownsRow p 47 2 (.slice A4 k c4) k (fdv acc) ∧ Below p w wr ∧ p ≤ wr.heap.size)) (fun vb _ _ => sliceLen vb)
      case atStart => exact ⟨[], 0, 0, none, r, X, n2, c2, rfl, by omega, rfl, rfl, hn2b, Lib.hid ⟨hrl.out, hrX.out, hXlt.out, rfl, World.ownsRow_nil _ _ _ _, Below.refl _ _, by omega⟩⟩
      case round =>
        clear hrX hXlt hrl
        obtain ⟨acc, k, c4, A4, l1, A1, n1, c1, hk, hk16, rfl, rfl, ⟨hnc1, hcc1, hn1m⟩, HK⟩ := hrel
        obtain ⟨hlen, hr1, L1, hfin, ho, hb, hplt⟩ := HK.out
        clear HK
        rcases l1 with _ | ⟨z, r1⟩
        · have hn10 : n1 = 0 := hlen.symm
          subst hn10
          rw [fgl_nil] at hfin
          have hfin2 : Hid (fget (0 :: 0 :: r) = (acc, 0)) := Lib.hid (by rw [hg.out, ← hfin])
          replace ho := Lib.hid ho
          replace hb := Lib.hid hb
          replace hk := Lib.hid hk
          replace hp := Lib.hid hp
          clear L1 hfin hlen hr1
          go_wp2_with fail
          go_ret2
          rw [hfin2.out]
          refine ⟨A4, c4, by rw [show acc.length = k from hk.out]; rfl, ?_, by rw [hp.out]; exact hb.out⟩
          rw [hp.out, show acc.length = k from hk.out]; exact ho.out
        · have hn1 : 0 < n1 := by rw [← hlen]; simp
          have hn1I : (0 : Int) < (n1 : Int) := by omega
          obtain ⟨⟨⟨fa, fb⟩, lg, er⟩, hq⟩ : ∃ q, rln (z :: r1) = q := ⟨_, rfl⟩
          obtain ⟨q1, q2⟩ := rln_pln z r1
          rw [hq] at q1 q2
          simp only at q1 q2
          rw [hlen] at q2
          have LN := Lib.hid (rline_any z r1 A1 n1 c1 wr hr1 hlen hnc1 hcc1 hn1m fa fb lg er hq)
          obtain ⟨f, hf⟩ : ∃ f, 17 - k = f + 1 := ⟨16 - k, by omega⟩
          rw [hf, fgl_cons, hk] at hfin
          by_cases hk1 : k = 16
          · rw [if_pos hk1] at hfin
            have hfin2 : Hid (fget (0 :: 0 :: r) = ([], 4)) := Lib.hid (by rw [hg.out, ← hfin])
            have d1 : ((k : Int) == 16) = true := by rw [beq_iff_eq]; omega
            replace hb := Lib.hid hb
            replace hp := Lib.hid hp
            replace hk1 := Lib.hid hk1
            clear L1 hfin ho hf q1 q2 hq hr1 hlen
            go_wp2_with fail
            refine LN.out.mono ?_
            rintro en w2 ⟨rfl, b2⟩
            have B3 := Lib.hid ((hb.out.trans (b2.mono hplt)).alloc (Nat.le_trans hplt b2.size) (.cells #[.string fa, .string fb] 47))
            go_wp2_with fail
            go_ret2
            rw [hfin2.out]
            exact ⟨none, 0, rfl, World.ownsRow_nil _ _ _ _, by rw [hp.out]; exact B3.out⟩
          · rw [if_neg hk1] at hfin
            have d1 : ((k : Int) == 16) = false := by rw [beq_eq_false_iff_ne]; omega
            by_cases he : er = 0
            · subst he
              obtain ⟨a1, a2, a3, a4⟩ := q2 rfl
              obtain ⟨M, rfl⟩ : ∃ M' : Nat, lg = M' := ⟨lg.toNat, by omega⟩
              rw [Int.toNat_natCast] at a2
              rw [← q1, if_neg (by simp), ← a1, ← a2] at hfin
              have hMn : M ≤ n1 := by omega
              obtain ⟨X2, hX2, hXc2⟩ := cut_l (P := Tryd.prog) Tryd.underlying23 infoB A1 n1 c1 M hMn hnc1
              have hrd2 := hXc2.bytes' hr1 hlen hnc1
              have hl2 : ((z :: r1).drop M).length = n1 - M := by rw [List.length_drop, hlen]
              have L2 : ∀ a, X2 = some a → a.block < p := fun a ha => by
                obtain ⟨a0, e1, e2⟩ := hXc2.blk a ha
                have := L1 a0 e1
                omega
              obtain ⟨l2, hl2e⟩ : ∃ l2, (z :: r1).drop M = l2 := ⟨_, rfl⟩
              obtain ⟨n3, hn3⟩ : ∃ n3, n1 - M = n3 := ⟨_, rfl⟩
              obtain ⟨c3, hc3⟩ : ∃ c3, c1 - M = c3 := ⟨_, rfl⟩
              rw [hl2e] at hfin hrd2 hl2
              rw [hn3, hc3] at hX2
              rw [hn3] at hl2
              have hb3 : n3 ≤ c3 ∧ c3 ≤ 9223372036854775807 ∧ n3 ≤ 1000000 ∧ n3 < n1 := by omega
              replace hfin := Lib.hid hfin
              replace hf := Lib.hid hf
              replace ho := Lib.hid ho
              replace hb := Lib.hid hb
              replace hp := Lib.hid hp
              replace hq := Lib.hid hq
              replace hl2e := Lib.hid hl2e
              replace hn3 := Lib.hid hn3
              replace hc3 := Lib.hid hc3
              have hG := Lib.hid (And.intro hl2 (And.intro hrd2 L2))
              clear L1 hr1 hlen q1 q2 a1 a2 a3 a4 hXc2 hrd2 hl2 L2
              go_wp2_with fail
              refine LN.out.mono ?_
              rintro en w2 ⟨rfl, b2⟩
              have o2 := Lib.hid (own_fr ho.out (Fr.of_below b2 NoS) (fun _ _ x => x))
              have B2 := Lib.hid (hb.out.trans (b2.mono hplt))
              have hplt2 := Nat.le_trans hplt b2.size
              have rd2 := Lib.hid (hG.out.2.1.below b2)
              have HF : Hid (∀ A6 c6 w6 oa ob, w6.ownsRow p 47 2 (.slice A6 (k + 1) c6) (k + 1) (fdv acc ++ [.string fa, .string fb]) → ((w2.alloc oa).alloc ob).grownBy w6 (Value.slice A4 k c4).ownBlock → Rd w6 X2 (bv l2) ∧ w6.ownsRow p 47 2 (.slice A6 (k + 1) c6) (k + 1) (fdv (acc ++ [⟨fa, fb⟩])) ∧ Below p w w6 ∧ p ≤ w6.heap.size) := Lib.hid (fun A6 c6 w6 oa ob h6 g6 => by
                have F6 : Fr (fun q => (Value.slice A4 k c4).ownBlock = some q) w2 w6 := (((Fr.refl _ w2).alloc oa).alloc ob).grown g6 (fun _ hq _ => hq)
                refine ⟨rd2.out.fr F6 (fun _ a ha e => ?_), by rw [fdv_append]; exact h6, Fr.under B2.out hplt2 F6 (fun q hq _ => (o2.out.lt q hq).1), by have := F6.size; omega⟩
                have q1 := hG.out.2.2 a ha
                have q2 := (o2.out.lt a.block e).1
                omega)
              clear b2
              go_wp2_with (at_builtin; refine wpList_appS rfl _ _ 22 rfl p 47 _ 2 32 infoF Tryd.underlying22 rfl (by decide) (.slice A4 k c4) k (fdv acc) rfl ((o2.out.alloc _).alloc _) ⟨w2.heap.size + 1, 0, none⟩ 1 1 [.string fa, .string fb] rfl rfl (Rd.fresh_to (by rw [World.size_alloc]) [.string fa, .string fb] _ _).cells (by intro u hu; simp at hu; rcases hu with rfl | rfl <;> rfl) (by unfold maxLen; omega) (by omega) (by simp only [World.size_alloc]; omega) ?_; intro A6 c6 w6 ho6 hg6 hat6; have H6 := Lib.hid (HF.out A6 c6 w6 _ _ ho6 hg6); clear ho6 hg6 hat6)
              go_roundw
              case rel => exact ⟨acc ++ [⟨fa, fb⟩], k + 1, c6, A6, l2, X2, n3, c3, by rw [List.length_append, hk]; rfl, by omega, rfl, rfl, ⟨hb3.1, hb3.2.1, hb3.2.2.1⟩, Lib.hid ⟨hG.out.1, H6.out.1, hG.out.2.2, by rw [← hfin.out]; congr 1; have := hf.out; omega, H6.out.2.1, H6.out.2.2.1, H6.out.2.2.2⟩⟩
              case measure => simp only [sliceLen]; omega
            · rw [← q1, if_pos he] at hfin
              have d2 : (er != 0) = true := by rw [bne_iff_ne]; exact he
              have hfin2 : Hid (fget (0 :: 0 :: r) = ([], er)) := Lib.hid (by rw [hg.out, ← hfin])
              replace hb := Lib.hid hb
              replace hp := Lib.hid hp
              clear L1 hfin ho hf q1 q2 hq hr1 hlen
              go_wp2_with fail
              refine LN.out.mono ?_
              rintro en w2 ⟨rfl, b2⟩
              have B3 := Lib.hid ((hb.out.trans (b2.mono hplt)).alloc (Nat.le_trans hplt b2.size) (.cells #[.string fa, .string fb] 47))
              go_wp2_with fail
              go_ret2
              rw [hfin2.out]
              exact ⟨none, 0, rfl, World.ownsRow_nil _ _ _ _, by rw [hp.out]; exact B3.out⟩
    · have hg : Hid (fget (x :: y :: r) = ([], 5)) := Lib.hid (by
        unfold fget
        rw [if_neg (by simp), if_pos]
        rcases Classical.em (x = 0) with h | h
        · exact .inr (fun e => hz ⟨h, e⟩)
        · exact .inl h)
      have hxy : ((x.toNat : Int) != 0) = true ∨ (((x.toNat : Int) != 0) = false ∧ ((y.toNat : Int) != 0) = true) := by
        rcases Classical.em (x = 0) with h | h
        · right
          subst h
          refine ⟨rfl, ?_⟩
          have : y ≠ 0 := fun e => hz ⟨rfl, e⟩
          exact u8_ne' this
        · left
          exact u8_ne' h
      obtain ⟨a, ha⟩ : ∃ a : Int, (x.toNat : Int) = a := ⟨_, rfl⟩
      obtain ⟨b2, hb2⟩ : ∃ b : Int, (y.toNat : Int) = b := ⟨_, rfl⟩
      rw [ha] at h0
      rw [hb2] at h1
      rw [ha, hb2] at hxy
      clear hr hz ha hb2
      rcases hxy with h | ⟨h, h2⟩
      all_goals
        go_enter Tryd.func31, Tryd.ntmps31
        go_wp2_with fail
        go_ret2
        rw [hg.out]
        exact ⟨none, 0, rfl, World.ownsRow_nil _ _ _ _, Below.refl _ _⟩
end Go.Proofs.YtdldipkbknhhoaaDoor

/- The document's letter: Get answers as ours. -/
namespace Go.Proofs.YtdldipkbknhhoaaDoor
open Go.RowKit

theorem lrd_e1 {l : List UInt8} (h : (vget l).2.2 ≠ 0) : lrd l = none := by unfold lrd; rw [if_pos h]
theorem lrd_e2 {l : List UInt8} {m : Nat} (h0 : (vget l).2.2 = 0) (hm : (vget l).2.1 = m) (hle : m ≤ l.length) (h : (vget (l.drop m)).2.2 ≠ 0 ∨ ((l.drop m).length : Int) - (vget (l.drop m)).2.1 < (vget (l.drop m)).1) : lrd l = none := by
  unfold lrd
  rw [if_neg (by rw [h0]; simp), hm, Int.toNat_natCast, if_pos]
  rcases h with h | h
  · exact .inl h
  · right
    rw [List.length_drop] at h
    omega
theorem lrd_ok {l : List UInt8} {m q L : Nat} (h0 : (vget l).2.2 = 0) (hm : (vget l).2.1 = m) (hle : m ≤ l.length) (h1 : (vget (l.drop m)).2.2 = 0) (hq : (vget (l.drop m)).2.1 = q) (hL : (vget (l.drop m)).1 = L) (h : ¬ ((l.drop m).length : Int) - q < L) :
    lrd l = some ((vget l).1, ((l.drop m).drop q).take L, (l.drop m).drop (q + L)) := by
  unfold lrd
  rw [if_neg (by rw [h0]; simp), hm, Int.toNat_natCast, if_neg, hq, hL]
  · simp only [Int.toNat_natCast, List.drop_drop, Nat.add_assoc]
  · rw [h1, hq, hL]
    rw [List.length_drop] at h
    rintro (h2 | h2)
    · exact h2 rfl
    · omega
/-- The document's Get, between two parts. -/
structure RM (w : World) (g q : Nat) (W : World) (Ab : Option Addr) (nb cb : Nat) (bod : List UInt8) (AL : Option Addr) (nL cL : Nat) (L : List UInt8) : Prop where
  res : W.heap[g]? = some (.cells #[.slice none 0 0, .slice none 0 0] 25 (0, 0))
  msg : W.heap[q]? = some (.cells #[.slice none 0 0, .slice Ab nb cb] 25 (0, 0))
  ob : W.ownsRow w.heap.size 5 1 (.slice Ab nb cb) nb (bv bod)
  lb : bod.length = nb
  ol : W.ownsRow w.heap.size 5 1 (.slice AL nL cL) nL (bv L)
  ll : L.length = nL
  bel : Below w.heap.size w W
  hg : w.heap.size = g
  hq : q = g + 1
  npb : ∀ k, (Value.slice Ab nb cb).ownBlock = some k → q < k
  npl : ∀ k, (Value.slice AL nL cL).ownBlock = some k → q < k
  sm : nL ≤ 1000000
section
variable {w W W' : World} {g q : Nat} {Ab AL : Option Addr} {nb cb nL cL : Nat} {bod L : List UInt8}
theorem RM.below (h : RM w g q W Ab nb cb bod AL nL cL L) (b : Below W.heap.size W W') : RM w g q W' Ab nb cb bod AL nL cL L :=
  ⟨heap_fr h.res (Fr.of_below b NoS) (fun x => x), heap_fr h.msg (Fr.of_below b NoS) (fun x => x), own_fr h.ob (Fr.of_below b NoS) (fun _ _ x => x), h.lb, own_fr h.ol (Fr.of_below b NoS) (fun _ _ x => x), h.ll, h.bel.trans (b.mono h.bel.size), h.hg, h.hq, h.npb, h.npl, h.sm⟩
theorem RM.qlt (h : RM w g q W Ab nb cb bod AL nL cL L) : q < W.heap.size := heap_lt h.msg
/-- A new list. -/
theorem RM.list (h : RM w g q W Ab nb cb bod AL nL cL L) {A' : Option Addr} {n' c' : Nat} {L' : List UInt8} (o : W'.ownsRow W.heap.size 5 1 (.slice A' n' c') n' (bv L')) (hl : L'.length = n') (b : Below W.heap.size W W') (hs : n' ≤ 1000000) : RM w g q W' Ab nb cb bod A' n' c' L' := by
  have h1 := h.below b
  have h2 := h.qlt
  have h3 := h.bel.size
  exact ⟨h1.res, h1.msg, h1.ob, h1.lb, own_base o (fun k hk => by have := (o.lt k hk).1; omega), hl, h1.bel, h.hg, h.hq, h.npb, fun k hk => by have := (o.lt k hk).1; omega, hs⟩
/-- A new body, stored. -/
theorem RM.body (h : RM w g q W Ab nb cb bod AL nL cL L) {A' : Option Addr} {n' c' : Nat} {D : List UInt8} (o : W'.ownsRow W.heap.size 5 1 (.slice A' n' c') n' (bv D)) (hl : D.length = n') (b : Below W.heap.size W W') : RM w g q (W'.setCell ⟨q, 1, none⟩ (.slice A' n' c')) A' n' c' D AL nL cL L := by
  have h1 := h.below b
  have h2 := h.qlt
  have h3 := h.bel.size
  have h4 := h.hq
  have h5 := h.hg
  have F : Fr (fun k => k = q) W' (W'.setCell ⟨q, 1, none⟩ (.slice A' n' c')) := (Fr.refl (fun k => k = q) W').setCell (p := ⟨q, 1, none⟩) (fun _ => rfl) _
  exact ⟨heap_fr h1.res F (fun e => by omega), heap_setCell_same _ q 1 _ _ _ h1.msg, own_fr (own_base o (fun k hk => by have := (o.lt k hk).1; omega)) F (fun k hk e => by have := (o.lt k hk).1; omega), hl, own_fr h1.ol F (fun k hk e => by have := h.npl k hk; omega), h.ll, Fr.under h1.bel h1.bel.size F (fun k hk _ => by omega), h.hg, h.hq, fun k hk => by have := (o.lt k hk).1; omega, h.npl, h.sm⟩
end
/-- How far the document's Get is. -/
def RG (l : List UInt8) (kk : Nat) (rest L bod : List UInt8) : Prop :=
  (kk = 0 ∧ rest = l ∧ bod = []) ∨ (1 ≤ kk ∧ lget l = match lgo (1025 - kk) (kk - 1) rest bod with
      | none => (([], []), 5)
      | some bod => if (fget L).2 ≠ 0 then (([], []), (fget L).2) else (((fget L).1, bod), 0))
theorem RG.none {l rest L bod : List UInt8} {kk : Nat} (h : RG l kk rest L bod) (hb : bok l.length = true) (hk : kk ≤ 1024) (h0 : rest ≠ []) (hn : lrd rest = none) : lget l = (([], []), 5) := by
  rcases h with ⟨rfl, rfl, rfl⟩ | ⟨h1, h2⟩
  · unfold lget
    rw [if_neg (by rw [hb]; simp), hn]
  · obtain ⟨f, hf⟩ : ∃ f, 1025 - kk = f + 1 := ⟨1024 - kk, by omega⟩
    rw [h2, hf, lgo_none h0 hn]
theorem RG.first {l L bod d r : List UInt8} (h : RG l 0 l L bod) (hb : bok l.length = true) (hn : lrd l = some (1, d, r)) : RG l 1 r d [] := by
  refine .inr ⟨by omega, ?_⟩
  unfold lget
  rw [if_neg (by rw [hb]; simp), hn]
  simp only [ne_eq, not_true_eq_false, if_false]
  rfl
theorem RG.first_no {l d r : List UInt8} {kind : Int} (hb : bok l.length = true) (hn : lrd l = some (kind, d, r)) (hk : kind ≠ 1) : lget l = (([], []), 5) := by
  unfold lget
  rw [if_neg (by rw [hb]; simp), hn]
  simp [hk]
theorem RG.body {l rest L bod d r : List UInt8} (h : RG l 1 rest L bod) (h0 : rest ≠ []) (hn : lrd rest = some (0, d, r)) : RG l 2 r L d := by
  rcases h with ⟨h1, _⟩ | ⟨h1, h2⟩
  · omega
  · refine .inr ⟨by omega, ?_⟩
    rw [h2, show 1025 - 1 = 1023 + 1 from rfl, lgo_some h0 hn, if_pos ⟨rfl, rfl⟩]
theorem RG.pad {l rest L bod d r : List UInt8} {kk : Nat} (h : RG l kk rest L bod) (hk1 : 1 ≤ kk) (hk : kk ≤ 1024) (h0 : rest ≠ []) (hn : lrd rest = some (33, d, r)) (hz : d.any (fun x => decide (x ≠ 0)) = false) : RG l (kk + 1) r L bod := by
  rcases h with ⟨h1, _⟩ | ⟨h1, h2⟩
  · omega
  · refine .inr ⟨by omega, ?_⟩
    obtain ⟨f, hf⟩ : ∃ f, 1025 - kk = f + 1 := ⟨1024 - kk, by omega⟩
    rw [h2, hf, lgo_some h0 hn, if_neg (by omega), if_neg (by rw [hz]; simp), show 1025 - (kk + 1) = f by omega, show kk + 1 - 1 = kk - 1 + 1 by omega]
theorem RG.pad_no {l rest L bod d r : List UInt8} {kk : Nat} {kind : Int} (h : RG l kk rest L bod) (hk1 : 1 ≤ kk) (hk : kk ≤ 1024) (h0 : rest ≠ []) (hn : lrd rest = some (kind, d, r)) (hz : kind ≠ 33 ∨ d.any (fun x => decide (x ≠ 0)) = true) (hkd : kind = 0 → kk ≠ 1) : lget l = (([], []), 5) := by
  rcases h with ⟨h1, _⟩ | ⟨h1, h2⟩
  · omega
  · obtain ⟨f, hf⟩ : ∃ f, 1025 - kk = f + 1 := ⟨1024 - kk, by omega⟩
    rw [h2, hf, lgo_some h0 hn, if_neg (fun e => hkd e.1 (by omega)), if_pos hz]
theorem RG.fin {l L bod : List UInt8} {kk : Nat} (h : RG l kk [] L bod) (hl : l ≠ []) : lget l = if (fget L).2 ≠ 0 then (([], []), (fget L).2) else (((fget L).1, bod), 0) := by
  rcases h with ⟨h1, h2, _⟩ | ⟨h1, h2⟩
  · exact absurd h2.symm hl
  · rw [h2, lgo_nil]
theorem refbucket_any (n : Int) (w : World) : Calls Tryd.prog 13 #[.int .i64 n] w fun e w' => e = .returned (.bool (bok n)) ∧ w = w' := by
  obtain ⟨v, hv⟩ : ∃ v, bok n = v := ⟨_, rfl⟩
  have hV : Hid (∀ x y z : Bool, (n == 256) = x → (n == 512) = y → (n == 1024) = z → bok n = (x || y || z)) := Lib.hid (fun x y z h1 h2 h3 => by
    rw [← h1, ← h2, ← h3]
    unfold bok
    rw [Bool.eq_iff_iff]
    simp [or_assoc])
  obtain ⟨x, hx⟩ : ∃ x, (n == 256) = x := ⟨_, rfl⟩
  obtain ⟨y, hy⟩ : ∃ y, (n == 512) = y := ⟨_, rfl⟩
  obtain ⟨z, hz⟩ : ∃ z, (n == 1024) = z := ⟨_, rfl⟩
  replace hV := Lib.hid (hV.out x y z hx hy hz)
  clear hv
  cases x with
  | true =>
    go_enter Tryd.func13, Tryd.ntmps13
    go_wp2_with fail
    go_ret
    exact ⟨by rw [hV.out]; rfl, rfl⟩
  | false =>
    cases y with
    | true =>
      go_enter Tryd.func13, Tryd.ntmps13
      go_wp2_with fail
      go_ret
      exact ⟨by rw [hV.out]; rfl, rfl⟩
    | false =>
      cases z with
      | true =>
        go_enter Tryd.func13, Tryd.ntmps13
        go_wp2_with fail
        go_ret
        exact ⟨by rw [hV.out]; rfl, rfl⟩
      | false =>
        go_enter Tryd.func13, Tryd.ntmps13
        go_wp2_with fail
        go_ret
        exact ⟨by rw [hV.out]; rfl, rfl⟩
end Go.Proofs.YtdldipkbknhhoaaDoor

/- The document's letter.Get: its walk. (Printed by gen_ltT.py.) -/
namespace Go.Proofs.YtdldipkbknhhoaaDoor
open Go.RowKit
set_option maxRecDepth 100000 in
set_option maxHeartbeats 8000000 in
theorem rltget_any (l : List UInt8) (A : Option Addr) (n c : Nat) (w : World) (hn : l.length = n) (hr : Rd w A (bv l)) (hc : n ≤ c) (hcc : c ≤ 9223372036854775807) (hl : n ≤ 1000000) :
    Calls Tryd.prog 15 #[.slice A n c] w (RetM w (lget l)) := by
  obtain ⟨v, hv⟩ : ∃ x, bok (n : Int) = x := ⟨_, rfl⟩
  have CB : Hid (∀ W, Calls Tryd.prog 13 #[.int .i64 (n : Int)] W fun e w' => e = .returned (.bool v) ∧ W = w') := Lib.hid (fun W => by rw [← hv]; exact refbucket_any n W)
  have hbo : Hid (bok (l.length : Int) = v) := Lib.hid (by rw [hn]; exact hv)
  replace hr := Lib.hid hr
  replace hn := Lib.hid hn
  clear hv
  obtain ⟨g, hg⟩ : ∃ g, w.heap.size = g := ⟨_, rfl⟩
  obtain ⟨wa, hwa⟩ : ∃ wa, w.alloc (.cells #[.slice none 0 0, .slice none 0 0] 25) = wa := ⟨_, rfl⟩
  have X0 : Hid (wa.heap[g]? = some (.cells #[.slice none 0 0, .slice none 0 0] 25 (0, 0))) := Lib.hid (by rw [← hwa, ← hg]; exact heap_alloc_new w _)
  have ba : Hid (Below w.heap.size w wa) := Lib.hid (by rw [← hwa]; exact (Below.refl _ w).alloc (Nat.le_refl _) _)
  have hsz : Hid (wa.heap.size = g + 1) := Lib.hid (by rw [← hwa, ← hg]; simp)
  go_enter Tryd.func15, Tryd.ntmps15
  go_wp2_with fail
  try rw [hwa]
  try rw [hg]
  refine (CB.out _).mono ?_
  rintro e w' ⟨rfl, rfl⟩
  clear CB hwa
  cases v with
  | false =>
    have hV : Hid (lget l = (([], []), 13)) := Lib.hid (lget_bucket l hbo.out)
    clear hr hn
    have y0 := wrote_cell X0.out 0 _ rfl
    have y1 := wrote_cell X0.out 1 _ rfl
    have f0 := frozen_of_row wa g 0 _ _ X0.out
    have f1 := frozen_of_row wa g 1 _ _ X0.out
    go_wp2_with fail
    obtain ⟨e1, _, e2⟩ := end0 X0.out ba.out hg (.slice none 0 0) (.slice none 0 0)
    refine bodyPost_ret (v := .tuple #[.agg #[.slice none 0 0, .slice none 0 0], .int .i64 13]) (res_ct rfl _ _ ⟨g, 0, none⟩ _ rfl (loadM e1 ⟨_, _, _, rfl⟩ ⟨_, _, _, rfl⟩) rfl) rfl ?_
    rw [hV.out]
    exact ⟨none, 0, none, 0, rfl, World.ownsRow_nil _ _ _ _, World.ownsRow_nil _ _ _ _, e2⟩
  | true =>
    have hnb := bok_bd hbo.out
    rw [hn.out] at hnb
    have hn1024 : n ≤ 1024 := by omega
    have hn256 : 256 ≤ n := by omega
    have hln : Hid (l ≠ []) := Lib.hid (fun e => by have := hn.out; rw [e] at this; simp at this; omega)
    clear hnb
    obtain ⟨wc, hwc⟩ : ∃ wc, wa.alloc (.cells #[.slice none 0 0, .slice none 0 0] 25) = wc := ⟨_, rfl⟩
    have H0 : Hid (RM w g (g + 1) wc none 0 0 [] none 0 0 []) := Lib.hid (by
      have hs := hsz.out
      have b1 : Below w.heap.size w wc := by rw [← hwc]; exact ba.out.alloc ba.out.size _
      have F1 : Fr NoS wa wc := by rw [← hwc]; exact (Fr.refl NoS wa).alloc _
      refine ⟨heap_fr X0.out F1 (fun x => x), ?_, World.ownsRow_nil _ _ _ _, rfl, World.ownsRow_nil _ _ _ _, rfl, b1, hg, rfl, (fun k hk => by cases hk), (fun k hk => by cases hk), by omega⟩
      have h1 := heap_alloc_new wa (.cells #[.slice none 0 0, .slice none 0 0] 25)
      rw [hs] at h1
      rw [← hwc]
      exact h1)
    replace hwc := Lib.hid hwc
    have hs1 := hsz.out
    obtain ⟨q, hq⟩ : ∃ q, g + 1 = q := ⟨_, rfl⟩
    rw [hq] at H0 hs1
    replace hq := Lib.hid hq
    go_wp2_with fail
    try rw [hwc.out]
    clear hwc X0 ba hs1 hsz
    go_wp2_with fail
    go_loopw [0, 5, 6] (fun b ls i W => ∃ (kk : Nat) (Ar : Option Addr) (nr cr : Nat) (rest : List UInt8) (AL : Option Addr) (nL cL : Nat) (L : List UInt8) (Ab : Option Addr) (nb cb : Nat) (bod : List UInt8), b = .slice Ar nr cr ∧ ls = .slice AL nL cL ∧ i = .int .i64 kk ∧ kk + nr ≤ n ∧ nr ≤ cr ∧ cr ≤ 9223372036854775807 ∧ Hid (Rd w Ar (bv rest) ∧ rest.length = nr) ∧ Hid (RM w g q W Ab nb cb bod AL nL cL L) ∧ Hid (RG l kk rest L bod)) (fun _ _ i _ => 2000 - (intOf i).toNat)
    case atStart => exact ⟨0, A, n, c, l, none, 0, 0, [], none, 0, 0, [], rfl, rfl, rfl, by omega, hc, hcc, Lib.hid ⟨hr.out, hn.out⟩, H0, Lib.hid (.inl ⟨rfl, rfl, rfl⟩)⟩
    case round =>
      clear H0
      obtain ⟨kk, Ar, nr, cr, rest, AL, nL, cL, L, Ab, nb, cb, bod, rfl, rfl, rfl, hkk, hnc, hccr, HR, M, HG⟩ := hrel
      by_cases h0 : nr = 0
      · have d0 : decide ((0 : Int) < (nr : Int)) = false := decide_eq_false (by omega)
        have d0n : decide (0 < nr) = false := decide_eq_false (by omega)
        have hr0 : rest = [] := List.eq_nil_of_length_eq_zero (by rw [HR.out.2]; exact h0)
        replace h0 := Lib.hid h0
        subst hr0
        have hV0 : Hid (lget l = if (fget L).2 ≠ 0 then (([], []), (fget L).2) else (((fget L).1, bod), 0)) := Lib.hid (HG.out.fin hln.out)
        have hcl := RetS.cap M.out.ol
        have CF := Lib.hid (rfget_any L AL cL nL wr M.out.ll (Rd.of_own M.out.ol) hcl.1 hcl.2 M.out.sm)
        unfold RetG at CF
        obtain ⟨LF, hL⟩ : ∃ LF, (fget L).1 = LF := ⟨_, rfl⟩
        obtain ⟨E, hE⟩ : ∃ E, (fget L).2 = E := ⟨_, rfl⟩
        rw [hL, hE] at CF hV0
        clear hL hE HG hcl
        go_wp2_with fail
        refine CF.out.mono ?_
        rintro e w4 ⟨Af, cf, rfl, o4, b4⟩
        clear CF
        have M2 := Lib.hid (M.out.below b4)
        by_cases hE0 : E = 0
        · subst hE0
          have hV : Hid (lget l = ((LF, bod), 0)) := Lib.hid (by rw [hV0.out, if_neg (by decide)])
          clear hV0
          have bE : ((0 : Int) != 0) = false := rfl
          have y0 := wrote_cell M2.out.msg 0 _ rfl
          have f0 := frozen_of_row w4 q 0 _ _ M2.out.msg
          obtain ⟨w5, hw5⟩ : ∃ w5, w4.setCell ⟨q, 0, none⟩ (.slice Af LF.length cf) = w5 := ⟨_, rfl⟩
          have h1 := M2.out.hg
          have h2 := M2.out.hq
          have h3 := M.out.qlt
          have h4 := M.out.bel.size
          have F : Fr (fun k => k = q) w4 w5 := by rw [← hw5]; exact (Fr.refl (fun k => k = q) w4).setCell (p := ⟨q, 0, none⟩) (fun _ => rfl) _
          have m5 : w5.heap[q]? = some (.cells #[.slice Af LF.length cf, .slice Ab nb cb] 25 (0, 0)) := by rw [← hw5]; exact heap_setCell_same _ q 0 _ _ _ M2.out.msg
          have r5 := heap_fr M2.out.res F (fun e => by omega)
          have b5 : Below w.heap.size w w5 := Fr.under M2.out.bel M2.out.bel.size F (fun k hk _ => by omega)
          have of5 := own_fr (own_base (base2 := w.heap.size) o4 (fun k hk => by have := (o4.lt k hk).1; omega)) F (fun k hk e => by have := (o4.lt k hk).1; omega)
          have ob5 := own_fr M2.out.ob F (fun k hk e => by have := M2.out.npb k hk; omega)
          have z0 := wrote_cell m5 0 _ rfl
          have z1 := wrote_cell m5 1 _ rfl
          have x0' := wrote_cell r5 0 _ rfl
          have x1' := wrote_cell r5 1 _ rfl
          have k0 := frozen_of_row w5 g 0 _ _ r5
          have k1 := frozen_of_row w5 g 1 _ _ r5
          have EN := Lib.hid (end0 r5 b5 hg (.slice Af LF.length cf) (.slice Ab nb cb))
          have hlb := Lib.hid M2.out.lb
          have gA : Hid (∀ k, (Value.slice Af LF.length cf).ownBlock = some k → k ≠ g) := Lib.hid (fun k hk => by have := (o4.lt k hk).1; omega)
          have gB : Hid (∀ k, (Value.slice Ab nb cb).ownBlock = some k → k ≠ g) := Lib.hid (fun k hk => by have := M2.out.npb k hk; omega)
          replace of5 := Lib.hid of5
          replace ob5 := Lib.hid ob5
          clear F m5 r5 b5 M M2 o4 b4 h1 h2 h3 h4
          subst hw5
          go_wp2_with fail
          obtain ⟨e1, eF, e2⟩ := EN.out
          refine bodyPost_ret (v := .tuple #[.agg #[.slice Af LF.length cf, .slice Ab nb cb], .int .i64 0]) (res_ct rfl _ _ ⟨g, 0, none⟩ _ rfl (loadM e1 ⟨_, _, _, rfl⟩ ⟨_, _, _, rfl⟩) rfl) rfl ?_
          rw [hV.out]
          have e3 := own_fr ob5.out eF (fun k hk e => gB.out k hk e)
          have hl9 := hlb.out
          subst hl9
          exact ⟨Af, cf, Ab, cb, rfl, own_fr of5.out eF (fun k hk e => gA.out k hk e), e3, e2⟩
        · have hV : Hid (lget l = (([], []), E)) := Lib.hid (by rw [hV0.out, if_pos hE0])
          clear hV0
          have bE : (E != 0) = true := by simpa using hE0
          replace hE0 := Lib.hid hE0
          have y0 := wrote_cell M2.out.res 0 _ rfl
          have y1 := wrote_cell M2.out.res 1 _ rfl
          have f0 := frozen_of_row w4 g 0 _ _ M2.out.res
          have f1 := frozen_of_row w4 g 1 _ _ M2.out.res
          clear M o4 b4
          go_wp2_with fail
          obtain ⟨e1, _, e2⟩ := end0 M2.out.res M2.out.bel hg (.slice none 0 0) (.slice none 0 0)
          refine bodyPost_ret (v := .tuple #[.agg #[.slice none 0 0, .slice none 0 0], .int .i64 E]) (res_ct rfl _ _ ⟨g, 0, none⟩ _ rfl (loadM e1 ⟨_, _, _, rfl⟩ ⟨_, _, _, rfl⟩) rfl) rfl ?_
          rw [hV.out]
          exact ⟨none, 0, none, 0, rfl, World.ownsRow_nil _ _ _ _, World.ownsRow_nil _ _ _ _, e2⟩
      · rename_i aa
        clear aa
        have d0 : decide ((0 : Int) < (nr : Int)) = true := decide_eq_true (by omega)
        have d0n : decide (0 < nr) = true := decide_eq_true (by omega)
        have hne : Hid (rest ≠ []) := Lib.hid (fun e => by have := HR.out.2; rw [e] at this; exact h0 this.symm)
        have HRd : Hid (Rd wr Ar (bv rest)) := Lib.hid (HR.out.1.below M.out.bel)
        have G1 := Lib.hid (refget_any rest Ar cr wr HRd.out (by rw [HR.out.2]; exact hnc) (by rw [HR.out.2]; omega) hccr)
        rw [HR.out.2] at G1
        obtain ⟨k1, hk1⟩ : ∃ x, (vget rest).1 = x := ⟨_, rfl⟩
        obtain ⟨mi, hmi⟩ : ∃ x, (vget rest).2.1 = x := ⟨_, rfl⟩
        obtain ⟨e1, he1⟩ : ∃ x, (vget rest).2.2 = x := ⟨_, rfl⟩
        have bd1 := vget_bd rest
        unfold vtup at G1
        rw [hk1, hmi, he1] at G1
        rw [hk1, hmi, he1, HR.out.2] at bd1
        by_cases h1 : e1 = 0
        · have hb := bd1 h1
          obtain ⟨m, rfl⟩ := Int.eq_ofNat_of_zero_le (show 0 ≤ mi by omega)
          obtain ⟨X1, hX1, hc1⟩ := cut_l (P := Tryd.prog) Tryd.underlying23 infoB Ar nr cr m (by omega) hnc
          obtain ⟨n1, hn1⟩ : ∃ n1, n1 = nr - m := ⟨_, rfl⟩
          obtain ⟨c1, hc1e⟩ : ∃ c1, c1 = cr - m := ⟨_, rfl⟩
          rw [← hn1, ← hc1e] at hX1
          have hR1 : Hid (Rd wr X1 (bv (rest.drop m))) := Lib.hid (hc1.bytes' HRd.out HR.out.2 hnc)
          have hl1 : Hid ((rest.drop m).length = n1) := Lib.hid (by rw [List.length_drop, HR.out.2]; omega)
          have G2 := Lib.hid (refget_any (rest.drop m) X1 c1 wr hR1.out (by rw [hl1.out]; omega) (by rw [hl1.out]; omega) (by omega))
          rw [hl1.out] at G2
          have bd2 := vget_bd (rest.drop m)
          obtain ⟨LI, hLI⟩ : ∃ x, (vget (rest.drop m)).1 = x := ⟨_, rfl⟩
          obtain ⟨qi, hqi⟩ : ∃ x, (vget (rest.drop m)).2.1 = x := ⟨_, rfl⟩
          obtain ⟨e2, he2⟩ : ∃ x, (vget (rest.drop m)).2.2 = x := ⟨_, rfl⟩
          unfold vtup at G2
          rw [hLI, hqi, he2] at G2
          rw [hLI, hqi, he2, hl1.out] at bd2
          have hr1w : Hid (∀ x, X1 = some x → ∃ y, Ar = some y ∧ y.block = x.block) := Lib.hid hc1.blk
          have hRw1 : Hid (Rd w X1 (bv (rest.drop m))) := Lib.hid (hc1.bytes' HR.out.1 HR.out.2 hnc)
          subst h1
          have d1 : ((0 : Int) != 0) = false := rfl
          replace hmi := Lib.hid hmi
          replace he1 := Lib.hid he1
          replace hk1 := Lib.hid hk1
          clear hc1 bd1
          by_cases h2 : e2 = 0
          · have hb2 := bd2 h2
            obtain ⟨qq, rfl⟩ := Int.eq_ofNat_of_zero_le (show 0 ≤ qi by omega)
            obtain ⟨dl, rfl⟩ := Int.eq_ofNat_of_zero_le (show 0 ≤ LI by omega)
            obtain ⟨R, hR⟩ : ∃ R : Nat, R = n1 - qq := ⟨_, rfl⟩
            have hw2 : IntKind.i64.wrap ((n1 : Int) - (qq : Int)) = (R : Int) := by rw [IntKind.wrap_i64]; omega
            have hw3 : IntKind.u64.wrap (R : Int) = (R : Int) := by rw [IntKind.wrap_u64]; omega
            subst h2
            replace hLI := Lib.hid hLI
            replace hqi := Lib.hid hqi
            replace he2 := Lib.hid he2
            clear bd2
            by_cases h3 : R < dl
            · have d3 : decide ((R : Int) < (dl : Int)) = true := decide_eq_true (by omega)
              have d3n : decide (R < dl) = true := decide_eq_true h3
              have hV : Hid (lget l = (([], []), 5)) := Lib.hid (HG.out.none hbo.out (by omega) hne.out (lrd_e2 he1.out hmi.out (by rw [HR.out.2]; omega) (.inr (by rw [hl1.out, hqi.out, hLI.out]; omega))))
              have y0 := wrote_cell M.out.res 0 _ rfl
              have y1 := wrote_cell M.out.res 1 _ rfl
              have f0 := frozen_of_row wr g 0 _ _ M.out.res
              have f1 := frozen_of_row wr g 1 _ _ M.out.res
              clear HG hb hb2 h3 hR hn1 hc1e hnc hccr hkk h0
              go_wp2_with fail
              refine G1.out.mono ?_
              rintro e w' ⟨rfl, rfl⟩
              clear G1
              go_wp2_with fail
              refine G2.out.mono ?_
              rintro e w' ⟨rfl, rfl⟩
              clear G2
              go_wp2_with fail
              obtain ⟨e1, _, e2⟩ := end0 M.out.res M.out.bel hg (.slice none 0 0) (.slice none 0 0)
              refine bodyPost_ret (v := .tuple #[.agg #[.slice none 0 0, .slice none 0 0], .int .i64 5]) (res_ct rfl _ _ ⟨g, 0, none⟩ _ rfl (loadM e1 ⟨_, _, _, rfl⟩ ⟨_, _, _, rfl⟩) rfl) rfl ?_
              rw [hV.out]
              exact ⟨none, 0, none, 0, rfl, World.ownsRow_nil _ _ _ _, World.ownsRow_nil _ _ _ _, e2⟩
            · have d3 : decide ((R : Int) < (dl : Int)) = false := decide_eq_false (by omega)
              have d3n : decide (R < dl) = false := decide_eq_false h3
              obtain ⟨T, hT⟩ : ∃ T : Nat, T = qq + dl := ⟨_, rfl⟩
              have hw5 : IntKind.i64.wrap (dl : Int) = (dl : Int) := by rw [IntKind.wrap_i64]; omega
              have hw6 : IntKind.i64.wrap ((qq : Int) + (dl : Int)) = (T : Int) := by rw [IntKind.wrap_i64]; omega
              obtain ⟨X2, hX2, hc2⟩ := cut_lh (P := Tryd.prog) Tryd.underlying23 infoB X1 n1 c1 qq T (by omega) (by omega)
              obtain ⟨X3, hX3, hc3⟩ := cut_l (P := Tryd.prog) Tryd.underlying23 infoB X1 n1 c1 T (by omega) (by omega)
              obtain ⟨d, hd⟩ : ∃ d, ((rest.drop m).drop qq).take dl = d := ⟨_, rfl⟩
              obtain ⟨r, hrr⟩ : ∃ r, (rest.drop m).drop T = r := ⟨_, rfl⟩
              have hlrd : Hid (lrd rest = some (k1, d, r)) := Lib.hid (by rw [lrd_ok (m := m) (q := qq) (L := dl) he1.out hmi.out (by rw [HR.out.2]; omega) he2.out hqi.out hLI.out (by rw [hl1.out]; omega), hk1.out, hd, ← hT, hrr])
              have hR2 : Hid (Rd wr X2 (bv d)) := Lib.hid (by
                have := hc2.bytes hR1.out (by rw [hl1.out]; omega) (by rw [hl1.out]; omega)
                rw [show T - qq = dl from by omega, hd] at this
                exact this)
              have hR3 : Hid (Rd w X3 (bv r)) := Lib.hid (by
                have := hc3.bytes' hRw1.out hl1.out (by omega)
                rwa [hrr] at this)
              have hdl : Hid (d.length = dl) := Lib.hid (by rw [← hd, List.length_take, List.length_drop, hl1.out]; omega)
              obtain ⟨n3, hn3⟩ : ∃ n3, n3 = n1 - T := ⟨_, rfl⟩
              obtain ⟨c3, hc3e⟩ : ∃ c3, c3 = c1 - T := ⟨_, rfl⟩
              rw [← hn3, ← hc3e] at hX3
              have hrl : Hid (r.length = n3) := Lib.hid (by rw [← hrr, List.length_drop, hl1.out]; omega)
              obtain ⟨cX, hcX⟩ : ∃ cX, cX = c1 - qq := ⟨_, rfl⟩
              have hTq : T - qq = dl := by omega
              rw [hTq, ← hcX] at hX2
              have hnum : kk + 1 + n3 ≤ n ∧ n3 ≤ c3 ∧ c3 ≤ 9223372036854775807 ∧ dl ≤ 1000000 ∧ dl ≤ cX ∧ kk ≤ 1024 := by omega
              clear hTq hc2 hc3 hd hrr hR hT hn3 hc3e hcX hn1 hc1e hb hb2 h3 hLI hqi he2 he1 hk1 hmi hR1 hl1 hRw1 hr1w HRd HR h0 hkk
              obtain ⟨hk2, hn3c, hc3c, hdl6, hdc, hk1024⟩ := hnum
              by_cases hk0 : kk = 0
              · subst hk0
                have t0 : (((0 : Nat) : Int) == 0) = true := rfl
                by_cases hk1 : k1 = 1
                · have tk : (k1 == 1) = true := by rw [hk1]; rfl
                  have hG2 : Hid (RG l 1 r d bod) := Lib.hid (by
                    have hh := HG.out
                    rcases hh with ⟨_, e1, e2⟩ | ⟨h, _⟩
                    · subst e1 e2
                      have h9 := hlrd.out
                      rw [hk1] at h9
                      exact RG.first (L := L) (bod := []) (.inl ⟨rfl, rfl, rfl⟩) hbo.out h9
                    · omega)
                  replace hk1 := Lib.hid hk1
                  clear HG hlrd
                  go_wp2_with fail
                  refine G1.out.mono ?_
                  rintro e w' ⟨rfl, rfl⟩
                  clear G1
                  go_wp2_with fail
                  refine G2.out.mono ?_
                  rintro e w' ⟨rfl, rfl⟩
                  clear G2
                  go_wp2_with (at_builtin; refine wpList_app _ rfl _ _ 23 rfl wr.heap.size 5 (.int .u8 0) 1 infoB Tryd.underlying23 rfl (.slice none 0 0) 0 [] rfl (World.ownsRow_nil _ _ _ _) X2 dl cX (bv d) rfl (by rw [bv_length, hdl.out]) hR2.out (bv_one d) (by unfold maxLen; omega) (by omega) (Nat.le_refl _) ?_; intro A6 c6 w6 ho6 hg6 _)
                  have b6 : Below wr.heap.size wr w6 := (Below.refl _ _).grown hg6 (Nat.le_refl _) (by simp [Value.ownBlock])
                  replace ho6 : w6.ownsRow wr.heap.size 5 1 (.slice A6 dl c6) dl (bv d) := by simpa using ho6
                  have M2 := Lib.hid (M.out.list ho6 hdl.out b6 hdl6)
                  clear ho6 hg6 b6 M
                  go_roundw
                  case rel => exact ⟨1, X3, n3, c3, r, A6, dl, c6, d, Ab, nb, cb, bod, rfl, rfl, by go_num, by omega, hn3c, hc3c, Lib.hid ⟨hR3.out, hrl.out⟩, M2, hG2⟩
                  case measure => simp [intOf]
                · have tk : (k1 == 1) = false := beq_eq_false_iff_ne.2 hk1
                  have hV : Hid (lget l = (([], []), 5)) := Lib.hid (by
                    have hh := HG.out
                    rcases hh with ⟨_, e1, e2⟩ | ⟨h, _⟩
                    · subst e1
                      exact RG.first_no hbo.out hlrd.out hk1
                    · omega)
                  have y0 := wrote_cell M.out.res 0 _ rfl
                  have y1 := wrote_cell M.out.res 1 _ rfl
                  have f0 := frozen_of_row wr g 0 _ _ M.out.res
                  have f1 := frozen_of_row wr g 1 _ _ M.out.res
                  clear HG hlrd hk1
                  go_wp2_with fail
                  refine G1.out.mono ?_
                  rintro e w' ⟨rfl, rfl⟩
                  clear G1
                  go_wp2_with fail
                  refine G2.out.mono ?_
                  rintro e w' ⟨rfl, rfl⟩
                  clear G2
                  go_wp2_with fail
                  obtain ⟨e1, _, e2⟩ := end0 M.out.res M.out.bel hg (.slice none 0 0) (.slice none 0 0)
                  refine bodyPost_ret (v := .tuple #[.agg #[.slice none 0 0, .slice none 0 0], .int .i64 5]) (res_ct rfl _ _ ⟨g, 0, none⟩ _ rfl (loadM e1 ⟨_, _, _, rfl⟩ ⟨_, _, _, rfl⟩) rfl) rfl ?_
                  rw [hV.out]
                  exact ⟨none, 0, none, 0, rfl, World.ownsRow_nil _ _ _ _, World.ownsRow_nil _ _ _ _, e2⟩
              · have hkp : 1 ≤ kk := by omega
                have t0 : ((kk : Int) == 0) = false := beq_eq_false_iff_ne.2 (by omega)
                have tgt : decide ((0 : Int) < (kk : Int)) = true := decide_eq_true (by omega)
                have tgn : decide (0 < kk) = true := decide_eq_true hkp
                replace hk0 := Lib.hid hk0
                by_cases hkb : kk = 1 ∧ k1 = 0
                · obtain ⟨rfl, rfl⟩ := hkb
                  have hG2 : Hid (RG l 2 r L d) := Lib.hid (HG.out.body hne.out hlrd.out)
                  have y0 := wrote_cell M.out.msg 1 _ rfl
                  have y1 := frozen_of_row wr q 1 _ _ M.out.msg
                  have HC : Hid (∀ w6, wr.grownBy w6 (none : Option Nat) → w6.cell? ⟨q, 1, none⟩ = some (.slice Ab nb cb) ∧ w6.frozen? ⟨q, 1, none⟩ = false) := Lib.hid (fun w6 g6 => by
                    have b6 : Below wr.heap.size wr w6 := (Below.refl _ _).grown g6 (Nat.le_refl _) (by simp)
                    have h9 := (M.out.below b6).msg
                    exact ⟨wrote_cell h9 1 _ rfl, frozen_of_row w6 q 1 _ _ h9⟩)
                  clear HG hlrd
                  go_wp2_with fail
                  refine G1.out.mono ?_
                  rintro e w' ⟨rfl, rfl⟩
                  clear G1
                  go_wp2_with fail
                  refine G2.out.mono ?_
                  rintro e w' ⟨rfl, rfl⟩
                  clear G2
                  go_wp2_with (at_builtin; refine wpList_app _ rfl _ _ 23 rfl wr.heap.size 5 (.int .u8 0) 1 infoB Tryd.underlying23 rfl (.slice none 0 0) 0 [] rfl (World.ownsRow_nil _ _ _ _) X2 dl cX (bv d) rfl (by rw [bv_length, hdl.out]) hR2.out (bv_one d) (by unfold maxLen; omega) (by omega) (Nat.le_refl _) ?_; intro A6 c6 w6 ho6 hg6 _; obtain ⟨hz1, hz2⟩ := HC.out w6 (by simpa [Value.ownBlock] using hg6); replace ho6 := Lib.hid ho6; replace hg6 := Lib.hid hg6)
                  have b6 : Below wr.heap.size wr w6 := (Below.refl _ _).grown hg6.out (Nat.le_refl _) (by simp [Value.ownBlock])
                  have ho7 : w6.ownsRow wr.heap.size 5 1 (.slice A6 dl c6) dl (bv d) := by simpa using ho6.out
                  have M2 := Lib.hid (M.out.body ho7 hdl.out b6)
                  clear ho6 ho7 hg6 b6 M hz1 hz2 HC y0 y1
                  go_roundw
                  case rel => exact ⟨2, X3, n3, c3, r, AL, nL, cL, L, A6, dl, c6, d, rfl, rfl, by go_num, by omega, hn3c, hc3c, Lib.hid ⟨hR3.out, hrl.out⟩, M2, hG2⟩
                  case measure => simp [intOf]
                · obtain ⟨xb, hxb⟩ : ∃ xb, ((kk : Int) == 1) = xb := ⟨_, rfl⟩
                  by_cases hk33 : k1 = 33
                  · subst hk33
                    have tq : ((33 : Int) == 0) = false := rfl
                    clear hkb
                    cases xb
                    all_goals
                      go_wp2_with fail
                      refine G1.out.mono ?_
                      rintro e w' ⟨rfl, rfl⟩
                      clear G1
                      go_wp2_with fail
                      refine G2.out.mono ?_
                      rintro e w' ⟨rfl, rfl⟩
                      clear G2
                      go_wp2_with fail
                      go_loop [12] (fun j => ∃ jj : Nat, jj ≤ dl ∧ j = .int .i64 jj ∧ Hid (∀ i x, i < jj → d[i]? = some x → x = 0)) (fun j => dl - (intOf j).toNat)
                      case atStart => exact ⟨0, by omega, rfl, Lib.hid (fun i x h => by omega)⟩
                      case round =>
                        obtain ⟨jj, hjj, rfl, hz⟩ := hrel
                        by_cases hj : jj < dl
                        · rename_i aa
                          clear aa
                          have d5 : decide ((jj : Int) < (dl : Int)) = true := decide_eq_true (by omega)
                          have d5n : decide (jj < dl) = true := decide_eq_true hj
                          have hji : (0 : Int) ≤ (jj : Int) ∧ (jj : Int) < (dl : Int) := by omega
                          have hji0 := hji.1
                          have hji1 := hji.2
                          have hjl : jj < d.length := by rw [hdl.out]; exact hj
                          obtain ⟨bb, oo, rfl, hcell⟩ := hR2.out.at_ (k := jj) (by rw [bv_length]; exact hjl)
                          obtain ⟨x, hx⟩ : ∃ x, d[jj] = x := ⟨_, rfl⟩
                          simp only [bv, List.getElem_map] at hcell
                          rw [hx] at hcell
                          have hxg : Hid (d[jj]? = some x) := Lib.hid (by rw [List.getElem?_eq_getElem hjl, hx])
                          replace hx := Lib.hid hx
                          clear hji
                          by_cases hx0 : x = 0
                          · have tx : ((x.toNat : Int) != 0) = false := by rw [hx0]; rfl
                            have hz2 : Hid (∀ i y, i < jj + 1 → d[i]? = some y → y = 0) := Lib.hid (fun i y hi hy => by
                              rcases Nat.lt_or_ge i jj with h | h
                              · exact hz.out i y h hy
                              · have e : i = jj := by omega
                                subst e
                                rw [hxg.out] at hy
                                injection hy with hy
                                rw [← hy]; exact hx0)
                            replace hx0 := Lib.hid hx0
                            clear hz
                            go_wp2_with fail
                            go_round
                            case rel => exact ⟨jj + 1, by omega, by go_num, hz2⟩
                            case measure => simp [intOf]; omega
                          · have tx : ((x.toNat : Int) != 0) = true := by
                              rw [bne_iff_ne]; intro e; exact hx0 (UInt8.toNat_inj.1 (by simpa using e))
                            have hV : Hid (lget l = (([], []), 5)) := Lib.hid (HG.out.pad_no hkp hk1024 hne.out hlrd.out (.inr (by
                              rw [List.any_eq_true]
                              exact ⟨x, List.mem_of_getElem? hxg.out, by simpa using hx0⟩)) (by intro e; cases e))
                            have y0 := wrote_cell M.out.res 0 _ rfl
                            have y1 := wrote_cell M.out.res 1 _ rfl
                            have f0 := frozen_of_row wr g 0 _ _ M.out.res
                            have f1 := frozen_of_row wr g 1 _ _ M.out.res
                            clear HG hlrd hx0 hz
                            go_wp2_with fail
                            obtain ⟨e1, _, e2⟩ := end0 M.out.res M.out.bel hg (.slice none 0 0) (.slice none 0 0)
                            refine bodyPost_ret (v := .tuple #[.agg #[.slice none 0 0, .slice none 0 0], .int .i64 5]) (res_ct rfl _ _ ⟨g, 0, none⟩ _ rfl (loadM e1 ⟨_, _, _, rfl⟩ ⟨_, _, _, rfl⟩) rfl) rfl ?_
                            rw [hV.out]
                            exact ⟨none, 0, none, 0, rfl, World.ownsRow_nil _ _ _ _, World.ownsRow_nil _ _ _ _, e2⟩
                        · obtain rfl : dl = jj := by omega
                          have d5 : decide ((dl : Int) < (dl : Int)) = false := by simp
                          have d5n : decide (dl < dl) = false := by simp
                          have hG2 : Hid (RG l (kk + 1) r L bod) := Lib.hid (HG.out.pad hkp hk1024 hne.out hlrd.out (by
                            rw [List.any_eq_false]
                            intro x hx
                            obtain ⟨i, hi⟩ := List.mem_iff_getElem?.1 hx
                            have hil : i < dl := by have := (List.getElem?_eq_some_iff.1 hi).1; rw [hdl.out] at this; exact this
                            rw [hz.out i x hil hi]
                            decide))
                          clear HG hlrd hz
                          go_wp2_with fail
                          go_roundw
                          case rel => exact ⟨kk + 1, X3, n3, c3, r, AL, nL, cL, L, Ab, nb, cb, bod, rfl, rfl, by go_num, by omega, hn3c, hc3c, Lib.hid ⟨hR3.out, hrl.out⟩, M, hG2⟩
                          case measure => simp [intOf]; omega
                  · have t33 : (k1 == 33) = false := beq_eq_false_iff_ne.2 hk33
                    have tz : Hid (xb = true → (k1 == 0) = false) := Lib.hid (fun e => beq_eq_false_iff_ne.2 (fun h => hkb ⟨by rw [e] at hxb; have := beq_iff_eq.1 hxb; omega, h⟩))
                    have hV9 : Hid (lget l = (([], []), 5)) := Lib.hid (HG.out.pad_no hkp hk1024 hne.out hlrd.out (.inl hk33) (fun h e => hkb ⟨e, h⟩))
                    clear hkb HG hlrd
                    replace hk33 := Lib.hid hk33
                    cases xb with
                    | false =>
                      clear tz
                      have hV : Hid (lget l = (([], []), 5)) := Lib.hid (hV9.out)
                      have y0 := wrote_cell M.out.res 0 _ rfl
                      have y1 := wrote_cell M.out.res 1 _ rfl
                      have f0 := frozen_of_row wr g 0 _ _ M.out.res
                      have f1 := frozen_of_row wr g 1 _ _ M.out.res
                      go_wp2_with fail
                      refine G1.out.mono ?_
                      rintro e w' ⟨rfl, rfl⟩
                      clear G1
                      go_wp2_with fail
                      refine G2.out.mono ?_
                      rintro e w' ⟨rfl, rfl⟩
                      clear G2
                      go_wp2_with fail
                      obtain ⟨e1, _, e2⟩ := end0 M.out.res M.out.bel hg (.slice none 0 0) (.slice none 0 0)
                      refine bodyPost_ret (v := .tuple #[.agg #[.slice none 0 0, .slice none 0 0], .int .i64 5]) (res_ct rfl _ _ ⟨g, 0, none⟩ _ rfl (loadM e1 ⟨_, _, _, rfl⟩ ⟨_, _, _, rfl⟩) rfl) rfl ?_
                      rw [hV.out]
                      exact ⟨none, 0, none, 0, rfl, World.ownsRow_nil _ _ _ _, World.ownsRow_nil _ _ _ _, e2⟩
                    | true =>
                      have tz2 := tz.out (by first | rfl | trivial)
                      clear tz
                      have hV : Hid (lget l = (([], []), 5)) := Lib.hid (hV9.out)
                      have y0 := wrote_cell M.out.res 0 _ rfl
                      have y1 := wrote_cell M.out.res 1 _ rfl
                      have f0 := frozen_of_row wr g 0 _ _ M.out.res
                      have f1 := frozen_of_row wr g 1 _ _ M.out.res
                      go_wp2_with fail
                      refine G1.out.mono ?_
                      rintro e w' ⟨rfl, rfl⟩
                      clear G1
                      go_wp2_with fail
                      refine G2.out.mono ?_
                      rintro e w' ⟨rfl, rfl⟩
                      clear G2
                      go_wp2_with fail
                      obtain ⟨e1, _, e2⟩ := end0 M.out.res M.out.bel hg (.slice none 0 0) (.slice none 0 0)
                      refine bodyPost_ret (v := .tuple #[.agg #[.slice none 0 0, .slice none 0 0], .int .i64 5]) (res_ct rfl _ _ ⟨g, 0, none⟩ _ rfl (loadM e1 ⟨_, _, _, rfl⟩ ⟨_, _, _, rfl⟩) rfl) rfl ?_
                      rw [hV.out]
                      exact ⟨none, 0, none, 0, rfl, World.ownsRow_nil _ _ _ _, World.ownsRow_nil _ _ _ _, e2⟩
          · have d2 : (e2 != 0) = true := by simpa using h2
            have hV : Hid (lget l = (([], []), 5)) := Lib.hid (HG.out.none hbo.out (by omega) hne.out (lrd_e2 he1.out hmi.out (by rw [HR.out.2]; omega) (.inl (by rw [he2]; exact h2))))
            have y0 := wrote_cell M.out.res 0 _ rfl
            have y1 := wrote_cell M.out.res 1 _ rfl
            have f0 := frozen_of_row wr g 0 _ _ M.out.res
            have f1 := frozen_of_row wr g 1 _ _ M.out.res
            clear HG hb h2 he2 hLI hqi bd2 hn1 hc1e hnc hccr hkk h0
            go_wp2_with fail
            refine G1.out.mono ?_
            rintro e w' ⟨rfl, rfl⟩
            clear G1
            go_wp2_with fail
            refine G2.out.mono ?_
            rintro e w' ⟨rfl, rfl⟩
            clear G2
            go_wp2_with fail
            obtain ⟨e1, _, e2⟩ := end0 M.out.res M.out.bel hg (.slice none 0 0) (.slice none 0 0)
            refine bodyPost_ret (v := .tuple #[.agg #[.slice none 0 0, .slice none 0 0], .int .i64 5]) (res_ct rfl _ _ ⟨g, 0, none⟩ _ rfl (loadM e1 ⟨_, _, _, rfl⟩ ⟨_, _, _, rfl⟩) rfl) rfl ?_
            rw [hV.out]
            exact ⟨none, 0, none, 0, rfl, World.ownsRow_nil _ _ _ _, World.ownsRow_nil _ _ _ _, e2⟩
        · have d1 : (e1 != 0) = true := by simpa using h1
          have hV : Hid (lget l = (([], []), 5)) := Lib.hid (HG.out.none hbo.out (by omega) hne.out (lrd_e1 (by rw [he1]; exact h1)))
          have y0 := wrote_cell M.out.res 0 _ rfl
          have y1 := wrote_cell M.out.res 1 _ rfl
          have f0 := frozen_of_row wr g 0 _ _ M.out.res
          have f1 := frozen_of_row wr g 1 _ _ M.out.res
          clear HG h1 he1 hk1 hmi bd1 hnc hccr hkk h0
          go_wp2_with fail
          refine G1.out.mono ?_
          rintro e w' ⟨rfl, rfl⟩
          clear G1
          go_wp2_with fail
          obtain ⟨e1, _, e2⟩ := end0 M.out.res M.out.bel hg (.slice none 0 0) (.slice none 0 0)
          refine bodyPost_ret (v := .tuple #[.agg #[.slice none 0 0, .slice none 0 0], .int .i64 5]) (res_ct rfl _ _ ⟨g, 0, none⟩ _ rfl (loadM e1 ⟨_, _, _, rfl⟩ ⟨_, _, _, rfl⟩) rfl) rfl ?_
          rw [hV.out]
          exact ⟨none, 0, none, 0, rfl, World.ownsRow_nil _ _ _ _, World.ownsRow_nil _ _ _ _, e2⟩
end Go.Proofs.YtdldipkbknhhoaaDoor

/- SameBytes tells whether two slices read alike, and only draws. -/
namespace Go.Proofs.YtdldipkbknhhoaaDoor
open Go.RowKit

set_option maxHeartbeats 400000 in
theorem same_any (l m : List UInt8) (A1 A2 : Option Addr) (c1 c2 : Nat) (w : World) (h1 : Rd w A1 (bv l)) (h2 : Rd w A2 (bv m)) (hl : l.length ≤ 140737488355328) (hm : m.length ≤ 140737488355328) :
    Calls Tryd.prog 33 #[.slice A1 l.length c1, .slice A2 m.length c2] w fun e w' => e = .returned (.bool (decide (l = m))) ∧ ∃ k, w' = w.drewN k := by
  by_cases hlen : l.length = m.length
  · have hb : ((l.length : Int) != (m.length : Int)) = false := by rw [hlen]; simp
    go_enter Tryd.func33, Tryd.ntmps33
    have HL := Lib.hid hlen
    clear hlen
    go_wp2
    clear hb
    go_loopw [5] (fun i wr => ∃ k q : Nat, k ≤ l.length ∧ i = .int .i64 k ∧ wr = w.drewN q ∧ l.take k = m.take k) (fun i _ => l.length - (intOf i).toNat)
    case atStart => exact ⟨0, 0, by omega, rfl, rfl, rfl⟩
    case round =>
      obtain ⟨k, q, hk, rfl, rfl, htake⟩ := hrel
      have HT := Lib.hid htake
      clear htake
      by_cases hkl : k < l.length
      · have hkm : k < m.length := by have := HL.out; omega
        obtain ⟨b1, o1, rfl, g1⟩ := h1.at_ (k := k) (by simpa using hkl)
        obtain ⟨b2, o2, rfl, g2⟩ := h2.at_ (k := k) (by simpa using hkm)
        simp only [bv, List.getElem_map] at g1 g2
        by_cases hd : l[k] = m[k]
        · have HD := Lib.hid hd
          have hne : ((l[k].toNat : Int) != (m[k].toNat : Int)) = false := by rw [hd]; simp
          clear hd
          go_wp2
          go_quiet (fail)
          go_wp2
          go_roundw
          case rel => exact ⟨k + 1, q + nq, by omega, by go_num, rfl, by rw [List.take_succ_eq_append_getElem hkl, List.take_succ_eq_append_getElem hkm, HT.out, HD.out]⟩
          case measure => simp [intOf]; omega
        · have hne : ((l[k].toNat : Int) != (m[k].toNat : Int)) = true := by
            rw [bne_iff_ne]; intro h; exact hd (UInt8.toNat_inj.1 (by exact_mod_cast h))
          have HD := Lib.hid hd
          clear hd
          go_wp2
          go_quiet (fail)
          go_wp2
          go_ret
          refine ⟨ret_bool ?_, q + nq, by rw [World.drewN_drewN]⟩
          have := HD.out
          exact (decide_eq_false (fun e => this (by simp only [e]))).symm
      · have hkl' : k = l.length := by omega
        go_wp2
        go_ret
        refine ⟨ret_bool ?_, _, rfl⟩
        have h1 := HT.out
        have h2 := HL.out
        rw [hkl', List.take_length, h2, List.take_length] at h1
        exact (decide_eq_true h1).symm
  · have hb : ((l.length : Int) != (m.length : Int)) = true := by rw [bne_iff_ne]; omega
    have HL := Lib.hid hlen
    clear hlen
    go_enter Tryd.func33, Tryd.ntmps33
    go_wp2
    go_ret
    refine ⟨ret_bool ?_, 0, rfl⟩
    have := HL.out
    exact (decide_eq_false (fun e => this (by rw [e]))).symm
end Go.Proofs.YtdldipkbknhhoaaDoor

/- letter's laws: two messages alike; a message that is too great. -/
namespace Go.Proofs.YtdldipkbknhhoaaDoor
open Go.RowKit

theorem same_n (b : Bool) (l m : List UInt8) (n1 n2 : Nat) (e1 : l.length = n1) (e2 : m.length = n2) (A1 A2 : Option Addr) (c1 c2 : Nat) (w : World) (h1 : Rd w A1 (bv l)) (h2 : Rd w A2 (bv m)) (hl : n1 ≤ 1000000) (hm : n2 ≤ 1000000) (hb : decide (l = m) = b) :
    Calls Tryd.prog 33 #[.slice A1 n1 c1, .slice A2 n2 c2] w fun e w' => e = .returned (.bool b) ∧ Still w w' := by
  subst e1 e2
  rw [← hb]
  exact still_of (same_any l m A1 A2 c1 c2 w h1 h2 (by omega) (by omega))
set_option maxRecDepth 100000 in
set_option maxHeartbeats 2000000 in
theorem samem_n (b : Bool) (fs gs : List Fd) (D E : List UInt8) (n1 n2 m1 m2 : Nat) (e1 : fs.length = n1) (e2 : gs.length = n2) (e3 : D.length = m1) (e4 : E.length = m2) (A1 A2 B1 B2 : Option Addr) (c1 c2 d1 d2 : Nat) (w : World)
    (h1 : Rd w A1 (fdv fs)) (h2 : Rd w A2 (fdv gs)) (h3 : Rd w B1 (bv D)) (h4 : Rd w B2 (bv E)) (hn1 : n1 ≤ 1000000) (hn2 : n2 ≤ 1000000) (hm1 : m1 ≤ 1000000) (hm2 : m2 ≤ 1000000) (hb : (decide (fs = gs) && decide (D = E)) = b) :
    Calls Tryd.prog 16 #[.agg #[.slice A1 n1 c1, .slice B1 m1 d1], .agg #[.slice A2 n2 c2, .slice B2 m2 d2]] w fun e w' => e = .returned (.bool b) ∧ Below w.heap.size w w' := by
  obtain ⟨x, hx⟩ : ∃ x, decide (fs = gs) = x := ⟨_, rfl⟩
  obtain ⟨y, hy⟩ : ∃ y, decide (D = E) = y := ⟨_, rfl⟩
  rw [hx, hy] at hb
  have ba : Hid (Below w.heap.size w ((w.alloc (.cells #[.slice A1 n1 c1, .slice B1 m1 d1] 25)).alloc (.cells #[.slice A2 n2 c2, .slice B2 m2 d2] 25))) := Lib.hid (((Below.refl _ w).alloc (Nat.le_refl _) _).alloc (by simp) _)
  have CF := Lib.hid (samef_n x fs gs n1 n2 e1 e2 A1 A2 c1 c2 _ (h1.below ba.out) (h2.below ba.out) hn1 hn2 hx)
  have CB := Lib.hid (fun W (h : Below w.heap.size w W) => same_n y D E m1 m2 e3 e4 B1 B2 d1 d2 W (h3.below h) (h4.below h) hm1 hm2 hy)
  replace hb := Lib.hid hb
  clear hx hy h1 h2 h3 h4 e1 e2 e3 e4
  obtain ⟨g, hg⟩ : ∃ g, w.heap.size = g := ⟨_, rfl⟩
  have Z0 : Hid (((w.alloc (.cells #[.slice A1 n1 c1, .slice B1 m1 d1] 25)).alloc (.cells #[.slice A2 n2 c2, .slice B2 m2 d2] 25)).heap[g]? = some (.cells #[.slice A1 n1 c1, .slice B1 m1 d1] 25 (0, 0))) := Lib.hid (by
    have h0 := heap_alloc_new w (.cells #[.slice A1 n1 c1, .slice B1 m1 d1] 25)
    rw [hg] at h0
    exact heap_fr h0 ((Fr.refl NoS _).alloc _) (fun x => x))
  have Z1 : Hid (((w.alloc (.cells #[.slice A1 n1 c1, .slice B1 m1 d1] 25)).alloc (.cells #[.slice A2 n2 c2, .slice B2 m2 d2] 25)).heap[g + 1]? = some (.cells #[.slice A2 n2 c2, .slice B2 m2 d2] 25 (0, 0))) := Lib.hid (by
    have h0 := heap_alloc_new (w.alloc (.cells #[.slice A1 n1 c1, .slice B1 m1 d1] 25)) (.cells #[.slice A2 n2 c2, .slice B2 m2 d2] 25)
    rw [show ∀ o, (w.alloc o).heap.size = g + 1 from fun o => by simp [hg]] at h0
    exact h0)
  go_enter Tryd.func16, Tryd.ntmps16
  go_wp2_with fail
  try rw [hg]
  obtain ⟨W, hW⟩ : ∃ W, (w.alloc (.cells #[.slice A1 n1 c1, .slice B1 m1 d1] 25)).alloc (.cells #[.slice A2 n2 c2, .slice B2 m2 d2] 25) = W := ⟨_, rfl⟩
  rw [hW] at ba CF Z0 Z1 ⊢
  clear hW
  refine CF.out.mono ?_
  rintro e w2 ⟨rfl, s2⟩
  clear CF
  have bb := Lib.hid (ba.out.trans (s2.below.mono ba.out.size))
  cases x with
  | false =>
    go_wp2_with fail
    go_ret
    exact ⟨by rw [← hb.out]; rfl, bb.out⟩
  | true =>
    have x1 := wrote_cell (heap_fr Z0.out (s2.fr NoS) (fun x => x)) 1 _ rfl
    have y1 := wrote_cell (heap_fr Z1.out (s2.fr NoS) (fun x => x)) 1 _ rfl
    replace s2 := Lib.hid s2
    go_wp2_with fail
    refine (CB.out _ bb.out).mono ?_
    rintro e w3 ⟨rfl, s3⟩
    go_wp2_with fail
    go_ret
    exact ⟨by rw [← hb.out]; rfl, bb.out.trans (s3.below.mono bb.out.size)⟩
end Go.Proofs.YtdldipkbknhhoaaDoor

/- letter's laws: a message in a variable; the calls on it; awake. -/
namespace Go.Proofs.YtdldipkbknhhoaaDoor
open Go.RowKit

/-- A message that is lent: how it reads. -/
structure MR (w : World) (fs : List Fd) (D : List UInt8) (A : Option Addr) (n : Nat) (B : Option Addr) (m : Nat) : Prop where
  rf : Rd w A (fdv fs)
  rb : Rd w B (bv D)
  ln : fs.length = n
  lm : D.length = m
  bn : n ≤ 1000000
  bm : m ≤ 900000
  hs : ∀ f ∈ fs, f.name.size ≤ 1000000 ∧ f.value.size ≤ 1000000
/-- A message in a variable of its own. -/
structure Msg (w : World) (p : Nat) (fs : List Fd) (D : List UInt8) (A : Option Addr) (n c : Nat) (B : Option Addr) (m d : Nat) : Prop where
  row : w.heap[p]? = some (.cells #[.slice A n c, .slice B m d] 25 (0, 0))
  r : MR w fs D A n B m
section
variable {w w' : World} {p q : Nat} {fs gs : List Fd} {D E : List UInt8} {A B A' B' : Option Addr} {n c m d n' c' m' d' : Nat}
theorem MR.below (h : MR w fs D A n B m) (b : Below w.heap.size w w') : MR w' fs D A n B m := ⟨h.rf.below b, h.rb.below b, h.ln, h.lm, h.bn, h.bm, h.hs⟩
theorem Msg.below (h : Msg w p fs D A n c B m d) (b : Below w.heap.size w w') : Msg w' p fs D A n c B m d := ⟨heap_fr h.row (Fr.of_below b NoS) (fun x => x), h.r.below b⟩
theorem Msg.c0 (h : Msg w p fs D A n c B m d) : w.cell? ⟨p, 0, none⟩ = some (.slice A n c) := wrote_cell h.row 0 _ rfl
theorem Msg.c1 (h : Msg w p fs D A n c B m d) : w.cell? ⟨p, 1, none⟩ = some (.slice B m d) := wrote_cell h.row 1 _ rfl
theorem MR.alloc (h : MR w fs D A n B m) (hp : w.heap.size = p) : Msg (w.alloc (.cells #[.slice A n c, .slice B m d] 25)) p fs D A n c B m d := by
  subst hp
  exact ⟨heap_alloc_new w _, h.below ((Below.refl _ w).alloc (Nat.le_refl _) _)⟩
/-- What Put answers: where what is wrong is known. -/
def PutTo (w : World) (fs : List Fd) (D : List UInt8) (b E : Int) (e : Ending) (w' : World) : Prop :=
  ∃ R X k x, e = .returned (.tuple #[.slice X k x, .int .i64 E]) ∧ R.length = k ∧ LtR fs D b R ∧ Rd w' X (bv R) ∧ k ≤ x ∧ x ≤ 9223372036854775807 ∧ k ≤ 1024 ∧ Below w.heap.size w w'
theorem MR.put (h : MR w fs D A n B m) (hb : BK w) (b e : Int) (he : ltE fs D b = e) : Calls Tryd.prog 10 #[.agg #[.slice A n c, .slice B m d], .int .i64 b] w (PutTo w fs D b e) := by
  refine (ltput_any fs D b A B n c m d w hb h.ln h.lm h.rf h.rb h.bn h.bm h.hs).mono ?_
  rintro e' w' ⟨R, X, x, he', hR, ho, hbl⟩
  have hc := RetS.cap ho
  refine ⟨R, X, R.length, x, by rw [← he]; exact he', rfl, hR, Rd.of_own ho, hc.1, hc.2, ?_, hbl⟩
  by_cases h0 : ltE fs D b = 0
  · have h1 := (hR.2 h0).1
    have h2 := bok_bd (ltE_inv h0).1
    omega
  · rw [hR.1 h0]; simp
theorem MR.fits (h : MR w fs D A n B m) (hb : BK w) (v : Int) (hv : ltleast fs D = v) : Calls Tryd.prog 11 #[.agg #[.slice A n c, .slice B m d]] w fun e w' => e = .returned (.int .i64 v) ∧ Below w.heap.size w w' := by
  rw [← hv]
  exact ltleast_any fs D A B n c m d w hb h.ln h.lm h.rf h.rb h.bn h.bm h.hs
theorem MR.same (h : MR w fs D A n B m) (k : MR w gs E A' n' B' m') (b : Bool) (hb : (decide (fs = gs) && decide (D = E)) = b) : Calls Tryd.prog 16 #[.agg #[.slice A n c, .slice B m d], .agg #[.slice A' n' c', .slice B' m' d']] w fun e w' => e = .returned (.bool b) ∧ Below w.heap.size w w' :=
  samem_n b fs gs D E n n' m m' h.ln k.ln h.lm k.lm A A' B B' c c' d d' w h.rf k.rf h.rb k.rb h.bn k.bn (by have := h.bm; omega) (by have := k.bm; omega) hb
end
/-- What Get answers, where it is known. -/
def GetTo (w : World) (fs : List Fd) (D : List UInt8) (E : Int) (e : Ending) (w' : World) : Prop :=
  ∃ A c B d, e = .returned (.tuple #[.agg #[.slice A fs.length c, .slice B D.length d], .int .i64 E]) ∧ Rd w' A (fdv fs) ∧ Rd w' B (bv D) ∧ Below w.heap.size w w'
theorem get_to (l : List UInt8) (A : Option Addr) (n c : Nat) (w : World) (hbk : BK w) (hn : l.length = n) (hr : Rd w A (bv l)) (hc : n ≤ c) (hcc : c ≤ 9223372036854775807) (hl : n ≤ 1000000) (fs : List Fd) (D : List UInt8) (E : Int) (h : lget l = ((fs, D), E)) :
    Calls Tryd.prog 14 #[.slice A n c] w (GetTo w fs D E) := by
  refine (ltget_any l A n c w hbk hn hr hc hcc hl).mono ?_
  rw [h]
  rintro e w' ⟨Af, cf, Ab, cb, he, ho, ho2, hb⟩
  exact ⟨Af, cf, Ab, cb, he, Rd.of_ownS ho, Rd.of_own ho2, hb⟩

def awF : List Fd := [⟨⟨#[97]⟩, ⟨#[98]⟩⟩]
def awD : List UInt8 := [104, 105]
theorem aw_256 : ltE awF awD 256 = 0 := by decide +kernel
theorem aw_100 : ltE awF awD 100 = 13 := by decide +kernel
theorem aw_least : ltleast awF awD = 256 := by decide +kernel
theorem aw_512 : bok 512 = true := by decide +kernel
theorem awF_hs : ∀ f ∈ awF, f.name.size ≤ 1000000 ∧ f.value.size ≤ 1000000 := by
  intro f hf
  rw [awF, List.mem_singleton] at hf
  subst hf
  decide
set_option maxRecDepth 100000 in
set_option maxHeartbeats 4000000 in
theorem awake_any (w : World) (hbk : BK w) :
    Calls Tryd.prog 8 #[] w fun e w' => e = .returned (.bool true) ∧ Below w.heap.size w w' := by
  obtain ⟨g, hg⟩ : ∃ g, w.heap.size = g := ⟨_, rfl⟩
  obtain ⟨wa, hwa⟩ : ∃ W, w.alloc (.cells #[.string ⟨#[97]⟩, .string ⟨#[98]⟩] 47) = W := ⟨_, rfl⟩
  have hsa : wa.heap.size = g + 1 := by rw [← hwa, ← hg]; simp
  have kc := Lib.run_convert_bytes_const (P := Tryd.prog) wa 23 5 #[.int .u8 104, .int .u8 105] 2 2 Tryd.underlying23 Tryd.underlying5
  rw [hsa] at kc
  obtain ⟨W1, hW1⟩ : ∃ W, wa.alloc (.cells #[.int .u8 104, .int .u8 105] 5 (2, 3)) = W := ⟨_, rfl⟩
  simp only [List.size_toArray, List.length_cons, List.length_nil, Nat.zero_add, Nat.reduceAdd, hW1] at kc
  have ba : Below w.heap.size w wa := by rw [← hwa]; exact (Below.refl _ w).alloc (Nat.le_refl _) _
  have b1 : Below w.heap.size w W1 := by rw [← hW1]; exact ba.alloc ba.size _
  have hs1 : W1.heap.size = g + 2 := by rw [← hW1]; simp [hsa]
  have M0 : MR W1 awF awD (some ⟨g, 0, none⟩) 1 (some ⟨g + 1, 0, none⟩) 2 := by
    refine ⟨?_, ?_, rfl, rfl, by omega, by omega, awF_hs⟩
    · have h1 : Rd wa (some ⟨g, 0, none⟩) (fdv awF) := by rw [← hwa, ← hg]; exact Rd.fresh w (fdv awF) 47
      rw [← hW1]
      exact h1.alloc _
    · have h1 := Rd.fresh_mark wa (bv awD) 5 (2, 3)
      rw [hsa] at h1
      rw [← hW1]
      exact h1
  obtain ⟨W2, hW2⟩ : ∃ W, W1.alloc (.cells #[.slice (some ⟨g, 0, none⟩) 1 1, .slice (some ⟨g + 1, 0, none⟩) 2 2] 25) = W := ⟨_, rfl⟩
  have M : Hid (Msg W2 (g + 2) awF awD (some ⟨g, 0, none⟩) 1 1 (some ⟨g + 1, 0, none⟩) 2 2) := Lib.hid (by rw [← hW2]; exact M0.alloc hs1)
  have b2 : Hid (Below w.heap.size w W2) := Lib.hid (by rw [← hW2]; exact b1.alloc b1.size _)
  have hs2 : Hid (W2.heap.size = g + 3) := Lib.hid (by rw [← hW2]; simp [hs1])
  clear M0 b1 ba
  replace hwa := Lib.hid hwa
  replace hW1 := Lib.hid hW1
  replace hsa := Lib.hid hsa
  replace hs1 := Lib.hid hs1
  replace hW2 := Lib.hid hW2
  have x0 := M.out.c0
  have x1 := M.out.c1
  go_enter Tryd.func8, Tryd.ntmps8
  go_wp2_with fail
  try rw [hwa.out]
  try rw [hg]
  try rw [kc]
  go_wp2_with fail
  rw [hW2.out, hs1.out]
  have hbk2 : Hid (BK W2) := Lib.hid (hbk.fr (Fr.of_below b2.out NoS) (fun x => x))
  refine (M.out.r.put hbk2.out 256 0 aw_256).mono ?_
  rintro e w3 ⟨R, X, k, x, rfl, hk, hR, hX, hkx, hxx, hk2, b3⟩
  have hk256 : k = 256 := by have := (hR.2 aw_256).1; omega
  have hget := Lib.hid (lget_put (by decide) aw_256 hR)
  subst hk256
  replace M := Lib.hid (M.out.below b3)
  replace hbk2 := Lib.hid (hbk2.out.below b3)
  replace b2 := Lib.hid (b2.out.trans (b3.mono b2.out.size))
  have hlt3 : Hid (g + 3 ≤ w3.heap.size) := Lib.hid (by have := b3.size; have := hs2.out; omega)
  replace hk := Lib.hid hk
  replace hX := Lib.hid hX
  clear hR b3 hs2 hs1 hwa hsa hW1 hW2 kc
  go_wp2_with fail
  refine (get_to R X 256 x w3 hbk2.out hk.out hX.out hkx hxx (by omega) awF awD 0 hget.out).mono ?_
  rintro e w4 ⟨Y, y, Z, z, rfl, hY, hZ, b4⟩
  have M4 : MR w4 awF awD Y 1 Z 2 := ⟨hY, hZ, rfl, rfl, by omega, by omega, awF_hs⟩
  replace M := Lib.hid (M.out.below b4)
  replace hbk2 := Lib.hid (hbk2.out.below b4)
  replace b2 := Lib.hid (b2.out.trans (b4.mono b2.out.size))
  replace hlt3 := Lib.hid (Nat.le_trans hlt3.out b4.size)
  simp only [awF, awD, List.length_cons, List.length_nil, Nat.zero_add, Nat.reduceAdd]
  obtain ⟨q, hq⟩ : ∃ q, w4.heap.size = q := ⟨_, rfl⟩
  obtain ⟨w5, hw5⟩ : ∃ W, w4.alloc (.cells #[.slice Y 1 y, .slice Z 2 z] 25) = W := ⟨_, rfl⟩
  have b5 : Below w4.heap.size w4 w5 := by rw [← hw5]; exact (Below.refl _ w4).alloc (Nat.le_refl _) _
  have N5 : Hid (Msg w5 q awF awD Y 1 y Z 2 z) := Lib.hid (by rw [← hw5]; exact M4.alloc hq)
  replace M := Lib.hid (M.out.below b5)
  replace hbk2 := Lib.hid (hbk2.out.below b5)
  replace b2 := Lib.hid (b2.out.trans (b5.mono b2.out.size))
  have x0' := M.out.c0
  have x1' := M.out.c1
  rw [← hw5] at x0' x1'
  clear M4 hY hZ b4 b5 hX hk hkx hxx hget
  replace hw5 := Lib.hid hw5
  clear x0 x1
  go_wp2_with fail
  rw [hw5.out]
  refine (M.out.r.put hbk2.out 100 13 aw_100).mono ?_
  rintro e w6 ⟨R6, X6, k6, x6, rfl, hk6, hR6, hX6, hkx6, hxx6, hk26, b6⟩
  replace M := Lib.hid (M.out.below b6)
  replace N5 := Lib.hid (N5.out.below b6)
  replace hbk2 := Lib.hid (hbk2.out.below b6)
  replace b2 := Lib.hid (b2.out.trans (b6.mono b2.out.size))
  clear hw5 hq hk6 hR6 hX6 x0' x1' hlt3 b6 hxx6 hkx6 hk26
  have m0 := M.out.c0
  have m1 := M.out.c1
  have n0 := N5.out.c0
  have n1 := N5.out.c1
  go_wp2_with fail
  refine (M.out.r.same N5.out.r true (by simp)).mono ?_
  rintro e w7 ⟨rfl, b7⟩
  replace M := Lib.hid (M.out.below b7)
  replace hbk2 := Lib.hid (hbk2.out.below b7)
  replace b2 := Lib.hid (b2.out.trans (b7.mono b2.out.size))
  clear m0 m1 n0 n1 b7 N5
  have m0 := M.out.c0
  have m1 := M.out.c1
  go_wp2_with fail
  have CB := bucket_any 512 w7 hbk2.out
  rw [aw_512] at CB
  refine CB.mono ?_
  rintro e w8 ⟨rfl, rfl⟩
  clear CB
  go_wp2_with fail
  refine (M.out.r.fits hbk2.out 256 aw_least).mono ?_
  rintro e w9 ⟨rfl, b9⟩
  replace b2 := Lib.hid (b2.out.trans (b9.mono b2.out.size))
  clear b9 m0 m1
  go_wp2_with fail
  go_ret
  exact ⟨rfl, b2.out⟩
end Go.Proofs.YtdldipkbknhhoaaDoor

/- A slice of api.Field that came in: how it reads; how long its strings may be. -/
namespace Go.Proofs.YtdldipkbknhhoaaDoor
open Go.ChangeShapes Go.WideShapes Go.ChangeAt Go.RowKit

theorem weightsAll_in {H : Type} {P : Program} {e : TypeId} {d : DataW H} {n : Nat} (hn : n ∈ d.weights P e) : ∀ {l : List (DataW H)}, d ∈ l → n ∈ DataW.weightsAll P e l
  | x :: l, h => by
    simp only [DataW.weightsAll, List.mem_append]
    rcases List.mem_cons.1 h with rfl | h
    · exact .inl hn
    · exact .inr (weightsAll_in hn h)
theorem open_recsF {H : Type} {enc : TypeId × Value → H} {P : Program} {w : World} {t e : TypeId} {f0 f1 : Field} {base : Nat} {a : Option Addr} {len cap : Nat} {d : DataW H} {ps : List MemPlace}
    (ht : P.underlying t = some (.slice e)) (he : P.underlying e = some (.struct #[f0, f1])) (ce : P.cellsOf e = 2) (o0 : f0.offset = 0) (o1 : f1.offset = 1) (c0 : P.cellsOf f0.type = 1) (c1 : P.cellsOf f1.type = 1)
    (s0 : P.underlying f0.type = some .string) (s1 : P.underlying f1.type = some .string) (hw : ∀ n ∈ d.weights P t, n ≤ reachBytes)
    (h : DataW.Trod enc P w base (fun _ => true) true t (.slice a len cap) d ps) :
    ∃ z : List Fd, z.length = len ∧ Rd w a (fdv z) ∧ len ≤ cap ∧ cap ≤ 9223372036854775807 ∧ ∀ x ∈ z, x.name.size ≤ reachBytes ∧ x.value.size ≤ reachBytes := by
  obtain ⟨fuel, hf⟩ := h
  rcases Go.Deep.open_slice_pairs ht he ce o0 o1 c0 c1 hf with ⟨hcs, _⟩ | ⟨a', len', cap', m, n, V0, V1, D0, D1, P0, P1, hcs, _, hl, hm, hmm, hd, hx⟩
  · simp [Value.cells] at hcs
    obtain ⟨rfl, rfl, rfl⟩ := hcs
    exact ⟨[], rfl, Rd.nil _ _, by omega, by omega, fun x hx => by cases hx⟩
  · simp [Value.cells] at hcs
    obtain ⟨rfl, rfl, rfl⟩ := hcs
    have hm' : len ≤ m := by rw [hmm]; simp only [if_true]; exact hl
    simp only [Prod.mk.injEq] at hd
    have each : ∀ i, i < len → ∃ f : Fd, w.cell? (a'.add (i * 2)) = some (.string f.name) ∧ w.cell? (a'.add (i * 2 + 1)) = some (.string f.value) ∧ f.name.size ≤ reachBytes ∧ f.value.size ≤ reachBytes := fun i hi => by
      obtain ⟨g0, g1, t0, t1⟩ := hx i (by omega)
      obtain ⟨q0, e0, x0, _⟩ := DataW.trod_string s0 t0
      obtain ⟨q1, e1, x1, _⟩ := DataW.trod_string s1 t1
      simp only [List.cons.injEq, and_true] at e0 e1
      simp only [Prod.mk.injEq] at x0 x1
      have hin : ∀ n, n ∈ (DataW.agg [D0 i, D1 i]).weights P e → n ≤ reachBytes := fun n hn => hw n (by
        rw [hd.1]
        simp only [DataW.weights, ht, List.mem_cons, List.mem_append]
        exact .inr (.inl (weightsAll_in hn (List.mem_map.2 ⟨i, List.mem_range.2 hi, rfl⟩))))
      refine ⟨⟨q0, q1⟩, by rw [g0, e0], by rw [g1, e1], ?_, ?_⟩
      · have := hin q0.data.toList.length (by simp [DataW.weights, he, DataW.weightsEach, x0.1])
        rwa [Array.length_toList] at this
      · have := hin q1.data.toList.length (by simp [DataW.weights, he, DataW.weightsEach, x1.1])
        rwa [Array.length_toList] at this
    obtain ⟨f, hf'⟩ : ∃ f : Nat → Fd, ∀ i, i < len → w.cell? (a'.add (i * 2)) = some (.string (f i).name) ∧ w.cell? (a'.add (i * 2 + 1)) = some (.string (f i).value) ∧ (f i).name.size ≤ reachBytes ∧ (f i).value.size ≤ reachBytes :=
      ⟨fun i => if hi : i < len then (each i hi).choose else ⟨.empty, .empty⟩, fun i hi => by simp only [dif_pos hi]; exact (each i hi).choose_spec⟩
    refine ⟨(List.range len).map f, by simp, fun hp => ?_, hl, by unfold maxLen at hm; omega, fun x hx => ?_⟩
    · simp at hp
      have h0 := (hf' 0 hp).1
      obtain ⟨b, off, spot⟩ := a'
      have hspot : spot = none := by simpa [Addr.add] using World.cell?_spot h0
      subst hspot
      refine ⟨b, off, rfl, fun j u hu => ?_⟩
      have hj : j < len * 2 := by have := (List.getElem?_eq_some_iff.1 hu).1; simpa using this
      have hz : ((List.range len).map f)[j / 2]? = some (f (j / 2)) := by rw [List.getElem?_map, List.getElem?_range (by omega)]; rfl
      rw [← WideShapes.add_plain]
      rcases (by omega : j % 2 = 0 ∨ j % 2 = 1) with h1 | h1
      · have h2 := rv_get Fd.cells fdc _ (j / 2) _ hz 0 (.string (f (j / 2)).name) rfl
        have h3 := (hf' (j / 2) (by omega)).1
        rw [show j / 2 * 2 + 0 = j by omega, hu] at h2
        rw [show j / 2 * 2 = j by omega] at h3
        rw [h3, h2]
      · have h2 := rv_get Fd.cells fdc _ (j / 2) _ hz 1 (.string (f (j / 2)).value) rfl
        have h3 := (hf' (j / 2) (by omega)).2.1
        rw [show j / 2 * 2 + 1 = j by omega, hu] at h2
        rw [show j / 2 * 2 + 1 = j by omega] at h3
        rw [h3, h2]
    · obtain ⟨i, hi, rfl⟩ := List.mem_map.1 hx
      exact (hf' i (List.mem_range.1 hi)).2.2
end Go.Proofs.YtdldipkbknhhoaaDoor

/- A slice of bytes, or of integers, that came in reads as a list. -/
namespace Go.Proofs.YtdldipkbknhhoaaDoor
open Go.RowKit

/-- A slice of bytes that came in reads as a list of bytes. -/
theorem row_u8 {w : World} {a : Option Addr} {len cap : Nat} {zs : List Int}
    (h : (a = none ∧ len = 0 ∧ cap = 0 ∧ zs = []) ∨ ∃ x, a = some x ∧ len ≤ cap ∧ cap ≤ maxLen ∧ zs.length = cap ∧ (∀ i, i < zs.length → w.cell? (x.add i) = some (.int .u8 (zs.getD i 0))) ∧ ∀ n ∈ zs, (Lit.int .u8 n).wf = true) :
    ∃ l : List UInt8, l.length = len ∧ Rd w a (bv l) ∧ l.length ≤ cap ∧ cap ≤ 9223372036854775807 := by
  rcases h with ⟨rfl, rfl, rfl, _⟩ | ⟨x, rfl, hl, hm, hz, hc, hw⟩
  · exact ⟨[], rfl, Rd.nil _ _, by simp, by omega⟩
  · refine ⟨(zs.take len).map fun z => UInt8.ofNat z.toNat, by simp; omega, ?_, by simp; omega, by simpa [maxLen] using hm⟩
    intro hn
    have hn' : 0 < len := by simp at hn; omega
    obtain ⟨b, off, rfl, hcell⟩ := ints_at hc (by omega)
    refine ⟨b, off, rfl, fun k u hu => ?_⟩
    have hk : k < len := by
      have := (List.getElem?_eq_some_iff.1 hu).1
      simp at this; omega
    have hkz : k < zs.length := by omega
    rw [hcell k hkz]
    have hmem := hw zs[k] (List.getElem_mem hkz)
    have hb := bounds_u8 hmem
    have e : (bv ((zs.take len).map fun z => UInt8.ofNat z.toNat))[k]? = some (.int .u8 zs[k]) := by
      simp [bv, hk, hkz]
      omega
    rw [e] at hu
    injection hu with hu
    rw [← hu]
    simp [List.getD, hkz]

/-- A slice of numbers that came in reads as a list of them. -/
theorem row_int {k : IntKind} {w : World} {a : Option Addr} {len cap : Nat} {zs : List Int}
    (h : (a = none ∧ len = 0 ∧ cap = 0 ∧ zs = []) ∨ ∃ x, a = some x ∧ len ≤ cap ∧ cap ≤ maxLen ∧ zs.length = cap ∧ (∀ i, i < zs.length → w.cell? (x.add i) = some (.int k (zs.getD i 0))) ∧ ∀ n ∈ zs, (Lit.int k n).wf = true) :
    ∃ l : List Int, l.length = len ∧ Rd w a (l.map (Value.int k)) ∧ l.length ≤ cap ∧ cap ≤ 9223372036854775807 ∧ ∀ n ∈ l, (Lit.int k n).wf = true := by
  rcases h with ⟨rfl, rfl, rfl, _⟩ | ⟨x, rfl, hl, hm, hz, hc, hw⟩
  · exact ⟨[], rfl, Rd.nil _ _, by simp, by omega, by simp⟩
  · refine ⟨zs.take len, by simp; omega, ?_, by simp; omega, by simpa [maxLen] using hm, fun n hn => hw n (List.mem_of_mem_take hn)⟩
    intro hn
    have hn' : 0 < len := by simp at hn; omega
    obtain ⟨b, off, rfl, hcell⟩ := ints_at hc (by omega)
    refine ⟨b, off, rfl, fun j u hu => ?_⟩
    have hk : j < len := by
      have := (List.getElem?_eq_some_iff.1 hu).1
      simp at this; omega
    have hkz : j < zs.length := by omega
    rw [hcell j hkz]
    have e : ((zs.take len).map (Value.int k))[j]? = some (.int k zs[j]) := by simp [hk, hkz]
    rw [e] at hu
    injection hu with hu
    rw [← hu]
    simp [List.getD, hkz]

end Go.Proofs.YtdldipkbknhhoaaDoor

/- What the listed variable gives: the buckets' cells. A message that came in. -/
namespace Go.Proofs.YtdldipkbknhhoaaDoor
open Go.ChangeShapes Go.WideShapes Go.ChangeAt Go.RowKit

theorem gBuckets : Tryd.prog.globalNamed "mantilla/letter.buckets" = some 0 := by kernel_rfl
theorem tBuckets : (Tryd.prog.globals[0]?).map (·.type) = some 52 := by kernel_rfl
theorem bk_of_laid {W : World} (h : laidMet Tryd.prog [("mantilla/letter.buckets", Rows.laid_mantilla_letter_buckets)] W) : BK W := by
  obtain ⟨ps, ⟨g1, t1, cs1, f1, p1, q1, hg1, ht1, hv1, hd1, _, _⟩, _⟩ := h
  obtain rfl := Option.some.inj (gBuckets.symm.trans hg1)
  obtain rfl := Option.some.inj (tBuckets.symm.trans ht1)
  obtain ⟨xs, m1, rfl, hx1, hlen, hn3, hel⟩ := DataW.trod_array Tryd.underlying52 hd1
  have c3 : Tryd.prog.cellsOf 3 = 1 := by kernel_rfl
  simp only [Rows.laid_mantilla_letter_buckets, Prod.mk.injEq, DataW.agg.injEq] at hx1
  have h0 := hel 0 (by decide)
  have h1 := hel 1 (by decide)
  have h2 := hel 2 (by decide)
  match xs, hn3, hx1, h0, h1, h2 with
  | [x0, x1, x2], _, hx1, h0, h1, h2 =>
    simp only [List.map_cons, List.map_nil, List.cons.injEq] at hx1
    obtain ⟨k0, e0, y0, _⟩ := DataW.trod_int Tryd.underlying3 (show DataW.trod _ Tryd.prog W 0 _ false m1 3 _ = some x0 from h0)
    obtain ⟨k1, e1, y1, _⟩ := DataW.trod_int Tryd.underlying3 (show DataW.trod _ Tryd.prog W 0 _ false m1 3 _ = some x1 from h1)
    obtain ⟨k2, e2, y2, _⟩ := DataW.trod_int Tryd.underlying3 (show DataW.trod _ Tryd.prog W 0 _ false m1 3 _ = some x2 from h2)
    have z0 : k0 = 256 := by rw [y0] at hx1; simpa using hx1.1.1.symm
    have z1 : k1 = 512 := by rw [y1] at hx1; simpa using hx1.1.2.1.symm
    have z2 : k2 = 1024 := by rw [y2] at hx1; simpa using hx1.1.2.2.1.symm
    subst z0 z1 z2
    have hc := fun i => World.var?_cell hg1 hv1 i
    obtain ⟨l1⟩ := cs1
    rw [c3] at e0 e1 e2
    match l1, e0, e1, e2 with
    | c0 :: c1 :: c2 :: _, e0, e1, e2 =>
      simp at e0 e1 e2
      subst e0 e1 e2
      exact ⟨by simpa using hc 0, by simpa using hc 1, by simpa using hc 2⟩

/-- A message that came in: how it reads; how long its strings may be. -/
structure MsgIn (w : World) (A : Option Addr) (n c : Nat) (B : Option Addr) (m d : Nat) (z : List Fd) (l : List UInt8) : Prop where
  ln : z.length = n
  rf : Rd w A (fdv z)
  nc : n ≤ c
  cc : c ≤ 9223372036854775807
  hs : ∀ x ∈ z, x.name.size ≤ reachBytes ∧ x.value.size ≤ reachBytes
  lm : l.length = m
  rb : Rd w B (bv l)
  md : m ≤ d
  dd : d ≤ 9223372036854775807
theorem open_msg {H : Type} {enc : TypeId × Value → H} {w : World} {base : Nat} {v : Value} {d : DataW H} {ps : List MemPlace}
    (hv : Value.okWide Tryd.prog w .any base 25 v) (hw : ∀ n ∈ d.weights Tryd.prog 25, n ≤ reachBytes)
    (h : DataW.Trod enc Tryd.prog w 0 (fun _ => true) true 25 v d ps) :
    ∃ A n c B m dd z l, v = .agg #[.slice A n c, .slice B m dd] ∧ MsgIn w A n c B m dd z l := by
  obtain ⟨cs, rfl, hcs⟩ := okWide_struct Tryd.underlying25 hv
  obtain ⟨fuel, hf⟩ := h
  obtain ⟨y0, y1, k, hx, hlen, t0, t1⟩ := trod_struct2 Tryd.underlying25 hf
  have c25 : Tryd.prog.cellsOf 25 = 2 := by kernel_rfl
  have c22 : Tryd.prog.cellsOf 22 = 1 := by kernel_rfl
  have c23 : Tryd.prog.cellsOf 23 = 1 := by kernel_rfl
  rw [c25] at hcs
  obtain ⟨⟨l⟩, hl2⟩ : ∃ l : Array Value, cs = l := ⟨_, rfl⟩
  subst hl2
  match l, hcs with
  | [x0, x1], _ =>
    simp only [c22, c23, Value.cells, List.drop_zero, List.drop_succ_cons, List.take_succ_cons, List.take_zero] at t0 t1
    obtain ⟨A, n, c, rfl⟩ : ∃ A n c, x0 = .slice A n c := by
      rcases DataW.trod_slice Tryd.underlying22 t0 with ⟨h0, _⟩ | ⟨a, len, cap, elems, rest, n, _, h0, _⟩
      · exact ⟨_, _, _, by simpa using h0⟩
      · exact ⟨_, _, _, by simpa using h0⟩
    obtain ⟨B, m, dd, rfl⟩ : ∃ A n c, x1 = .slice A n c := by
      rcases DataW.trod_slice Tryd.underlying23 t1 with ⟨h0, _⟩ | ⟨a, len, cap, elems, rest, n, _, h0, _⟩
      · exact ⟨_, _, _, by simpa using h0⟩
      · exact ⟨_, _, _, by simpa using h0⟩
    simp only [Prod.mk.injEq] at hx
    have hw0 : ∀ n ∈ y0.1.weights Tryd.prog 22, n ≤ reachBytes := fun n hn => hw n (by rw [hx.1]; simp [DataW.weights, Tryd.underlying25, DataW.weightsEach, hn])
    obtain ⟨z, z1, z2, z3, z4, z5⟩ := open_recsF Tryd.underlying22 Tryd.underlying47 (by kernel_rfl) rfl rfl (by kernel_rfl) (by kernel_rfl) (by kernel_rfl) (by kernel_rfl) hw0 (a := A) (len := n) (cap := c) (ps := y0.2) ⟨k, t0⟩
    have hb : ∃ zs : List Int, (B = none ∧ m = 0 ∧ dd = 0 ∧ zs = []) ∨ ∃ x, B = some x ∧ m ≤ dd ∧ dd ≤ maxLen ∧ zs.length = dd ∧ (∀ i, i < zs.length → w.cell? (x.add i) = some (.int .u8 (zs.getD i 0))) ∧ ∀ n ∈ zs, (Lit.int .u8 n).wf = true := by
      rcases open_ints Tryd.underlying23 Tryd.underlying5 (by kernel_rfl) t1 with ⟨h0, _⟩ | ⟨x, le, ca, zs, h0, _, h1, h2, h3, _, h4, h5⟩
      · simp at h0
        obtain ⟨rfl, rfl, rfl⟩ := h0
        exact ⟨[], .inl ⟨rfl, rfl, rfl, rfl⟩⟩
      · simp at h0
        obtain ⟨rfl, rfl, rfl⟩ := h0
        exact ⟨zs, .inr ⟨x, rfl, h1, h2, by simpa using h3, h4, h5⟩⟩
    obtain ⟨zs, hz⟩ := hb
    obtain ⟨l, l1, l2, l3, l4⟩ := row_u8 hz
    exact ⟨A, n, c, B, m, dd, z, l, rfl, z1, z2, z3, z4, z5, l1, l2, by omega, l4⟩
end Go.Proofs.YtdldipkbknhhoaaDoor

/- letter's laws: is a message more than is gone through? -/
namespace Go.Proofs.YtdldipkbknhhoaaDoor
open Go.RowKit

def fsz (fs : List Fd) (k : Nat) : Nat := ((fs.take k).map fun f => f.name.size + f.value.size).sum
theorem fsz_succ (fs : List Fd) (k : Nat) (h : k < fs.length) : fsz fs (k + 1) = fsz fs k + (fs[k].name.size + fs[k].value.size) := by
  unfold fsz; rw [← List.take_append_getElem h, List.map_append, List.sum_append]; simp
theorem sum_mem {l : List Nat} {x : Nat} (h : x ∈ l) : x ≤ l.sum := by
  induction l with
  | nil => cases h
  | cons y l ih =>
    rw [List.sum_cons]
    rcases List.mem_cons.1 h with rfl | h
    · omega
    · have := ih h; omega
theorem fsz_mem (fs : List Fd) (f : Fd) (h : f ∈ fs) : f.name.size + f.value.size ≤ fsz fs fs.length := by
  unfold fsz
  rw [List.take_length]
  exact sum_mem (List.mem_map_of_mem (f := fun f : Fd => f.name.size + f.value.size) h)
theorem fsz_bd (fs : List Fd) (hs : ∀ x ∈ fs, x.name.size ≤ reachBytes ∧ x.value.size ≤ reachBytes) : ∀ k, k ≤ fs.length → fsz fs k ≤ k * (2 * reachBytes)
  | 0, _ => by simp [fsz]
  | k + 1, h => by
    have h1 := fsz_bd fs hs k (by omega)
    have h2 := hs fs[k] (List.getElem_mem (by omega))
    rw [fsz_succ fs k (by omega), Nat.add_mul]
    omega
def GreatTo (w : World) (z : List Fd) (n m : Nat) (e : Ending) (w' : World) : Prop :=
  (∃ v, e = .returned (.bool v) ∧ (v = false → n ≤ 20 ∧ m ≤ 1200 ∧ ∀ f ∈ z, f.name.size ≤ 2000 ∧ f.value.size ≤ 2000)) ∧ Below w.heap.size w w'
set_option maxRecDepth 100000 in
set_option maxHeartbeats 2000000 in
theorem great_any (z : List Fd) (l : List UInt8) (A B : Option Addr) (n c m d : Nat) (w : World) (hi : MsgIn w A n c B m d z l) :
    Calls Tryd.prog 7 #[.agg #[.slice A n c, .slice B m d]] w (GreatTo w z n m) := by
  obtain ⟨g, hg⟩ : ∃ g, w.heap.size = g := ⟨_, rfl⟩
  obtain ⟨w1, hw1⟩ : ∃ W, w.alloc (.cells #[.slice A n c, .slice B m d] 25) = W := ⟨_, rfl⟩
  have b1 : Hid (Below w.heap.size w w1) := Lib.hid (by rw [← hw1]; exact (Below.refl _ w).alloc (Nat.le_refl _) _)
  have h1 : Hid (w1.heap[g]? = some (.cells #[.slice A n c, .slice B m d] 25 (0, 0))) := Lib.hid (by rw [← hw1, ← hg]; exact heap_alloc_new w _)
  have x0 := wrote_cell h1.out 0 _ rfl
  have x1 := wrote_cell h1.out 1 _ rfl
  have HI := Lib.hid hi
  have hcc := hi.cc
  have hnc := hi.nc
  have hdd := hi.dd
  have hmd := hi.md
  clear hi
  replace hw1 := Lib.hid hw1
  by_cases h20 : 20 < n
  · have d0 : decide ((20 : Int) < (n : Int)) = true := decide_eq_true (by omega)
    go_enter Tryd.func7, Tryd.ntmps7
    go_wp2_with fail
    rw [hw1.out]
    go_wp2_with fail
    go_ret
    exact ⟨⟨true, rfl, fun h => by cases h⟩, b1.out⟩
  · by_cases h12 : 1200 < m
    · have d0 : decide ((20 : Int) < (n : Int)) = false := decide_eq_false (by omega)
      have d1 : decide ((1200 : Int) < (m : Int)) = true := decide_eq_true (by omega)
      go_enter Tryd.func7, Tryd.ntmps7
      go_wp2_with fail
      rw [hw1.out]
      go_wp2_with fail
      go_ret
      exact ⟨⟨true, rfl, fun h => by cases h⟩, b1.out⟩
    · have d0 : decide ((20 : Int) < (n : Int)) = false := decide_eq_false (by omega)
      have d1 : decide ((1200 : Int) < (m : Int)) = false := decide_eq_false (by omega)
      have hbd := fsz_bd z HI.out.hs
      unfold reachBytes at hbd
      obtain ⟨V, hV⟩ : ∃ V, decide ((2000 : Int) < (fsz z n : Int)) = V := ⟨_, rfl⟩
      have hfin : Hid (V = false → n ≤ 20 ∧ m ≤ 1200 ∧ ∀ f ∈ z, f.name.size ≤ 2000 ∧ f.value.size ≤ 2000) := Lib.hid (fun h => ⟨by omega, by omega, fun f hf => by
        rw [h] at hV
        have h1 := of_decide_eq_false hV
        have h2 := fsz_mem z f hf
        rw [HI.out.ln] at h2
        omega⟩)
      have hz := HI.out.ln
      rw [hz] at hbd
      replace hbd := Lib.hid hbd
      replace hz := Lib.hid hz
      replace hV := Lib.hid hV
      go_enter Tryd.func7, Tryd.ntmps7
      go_wp2_with fail
      rw [hw1.out]
      go_wp2_with fail
      clear x0 x1
      go_loopw [3, 4] (fun s i W => ∃ k q : Nat, k ≤ n ∧ s = .int .i64 (fsz z k) ∧ i = .int .i64 k ∧ W = w1.drewN q) (fun _ i _ => n - (intOf i).toNat)
      case atStart => exact ⟨0, 0, by omega, by simp [fsz], rfl, rfl⟩
      case round =>
        obtain ⟨k, q, hk, rfl, rfl, rfl⟩ := hrel
        have x0 := wrote_cell h1.out 0 _ rfl
        by_cases hkn : k < n
        · rename_i aa
          clear aa
          have e0 : decide ((k : Int) < (n : Int)) = true := decide_eq_true (by omega)
          have e1 : decide (k < n) = true := decide_eq_true hkn
          have hkz : k < z.length := by rw [hz.out]; exact hkn
          have hkl0 : (0 : Int) ≤ (k : Int) := by omega
          have hkl1 : (k : Int) < (n : Int) := by omega
          obtain ⟨b, o, rfl, y0, y1⟩ := load_fd (HI.out.rf.below b1.out) hkz
          obtain ⟨f, hf⟩ : ∃ f, z[k] = f := ⟨_, rfl⟩
          have hsz := HI.out.hs z[k] (List.getElem_mem hkz)
          have hsu := fsz_succ z k hkz
          have hb1 := hbd.out (k + 1) (by omega)
          have hb0 := hbd.out k (by omega)
          unfold reachBytes at hsz
          rw [hf] at y0 y1 hsz hsu
          obtain ⟨fa, fb⟩ := f
          simp only at y0 y1 hsz hsu
          obtain ⟨S0, hS0⟩ : ∃ S0, fsz z k = S0 := ⟨_, rfl⟩
          obtain ⟨S2, hS2⟩ : ∃ S2, fsz z (k + 1) = S2 := ⟨_, rfl⟩
          obtain ⟨na, hna⟩ : ∃ na, fa.size = na := ⟨_, rfl⟩
          obtain ⟨nb, hnb⟩ : ∃ nb, fb.size = nb := ⟨_, rfl⟩
          rw [hS0] at hb0
          rw [hS0, hS2, hna, hnb] at hsu
          rw [hS2] at hb1
          rw [hna, hnb] at hsz
          obtain ⟨S1, hS1⟩ : ∃ S1, S0 + na = S1 := ⟨_, rfl⟩
          have q1 : IntKind.i64.wrap ((S0 : Int) + (na : Int)) = (S1 : Int) := by rw [IntKind.wrap_i64]; omega
          have q2 : IntKind.i64.wrap ((S1 : Int) + (nb : Int)) = (S2 : Int) := by rw [IntKind.wrap_i64]; omega
          rw [hS0]
          clear hf hsz hb0 hb1 hsu hS1
          replace hS0 := Lib.hid hS0
          replace hS2 := Lib.hid hS2
          go_wp2_with fail
          go_big_quiet (fail)
          clear q1 q2 y0 y1 x0
          go_wp2_with fail
          go_roundw
          case rel => exact ⟨k + 1, q + nq, by omega, by rw [hS2.out], by go_num, rfl⟩
          case measure => simp [intOf]; omega
        · obtain rfl : n = k := by omega
          have e0 : decide ((n : Int) < (n : Int)) = false := by simp
          have e1 : decide (n < n) = false := by simp
          obtain ⟨S0, hS0⟩ : ∃ S0, fsz z n = S0 := ⟨_, rfl⟩
          rw [hS0] at hV ⊢
          have hV2 := hV.out
          clear hS0 hbd
          go_wp2_with fail
          go_ret
          exact ⟨⟨V, rfl, hfin.out⟩, (Fr.of_below b1.out NoS).drewN q |>.below⟩
end Go.Proofs.YtdldipkbknhhoaaDoor

/- The builtin copy of bytes into a row that is known whole: what the row is then, and that nothing else turns. -/
namespace Go.Proofs.YtdldipkbknhhoaaDoor
open Go.RowKit

theorem wpList_copyB {P : Program} {w : World} {ops : Array Oper} {rest : List Oper} {o : Oper} {a : Act} {Q : Exit → Act → World → Prop} (hgd : o.guard = none) (d s : Operand) (dT sT : TypeId)
    (ho : o.op = .call { callee := .builtin .copy, args := #[d, s], argTypes := #[dT, sT] }) (elem : TypeId) (hu : P.underlying dT = some (.slice elem)) (hsz : (P.info? elem).map (·.size) = some 1)
    (dp sp : Option Addr) (dLen dCap m sCap : Nat) (hd : a.eval d = .slice dp dLen dCap) (hs : a.eval s = .slice sp m sCap)
    (g off : Nat) (G b : List UInt8) (t : TypeId) (hg : w.heap[g]? = some (.cells (bv G).toArray t (0, 0))) (hb : b.length = m) (hm : m ≤ dLen) (hdp : 0 < m → dp = some ⟨g, off, none⟩) (hr : Rd w sp (bv b)) (hfit : off + m ≤ G.length)
    (h : ∀ w', w'.heap[g]? = some (.cells (bv (G.take off ++ b ++ G.drop (off + m))).toArray t (0, 0)) → Fr (· = g) w w' → wpList P ops Q rest (a.put o.dst (goInt m)) w') : wpList P ops Q (o :: rest) a w := by
  subst hb
  by_cases h0 : b.length = 0
  · obtain rfl : b = [] := List.eq_nil_of_length_eq_zero h0
    refine wpList_copy_nothing hgd d s dT sT ho elem hu hsz dp sp dLen dCap _ sCap hd hs (by simp) ?_
    exact h w (by simpa using hg) (Fr.refl _ _)
  · obtain rfl := hdp (by omega)
    obtain ⟨b0, o0, rfl, hc⟩ := hr (by simp; omega)
    refine wpList_copy_own hgd d s dT sT ho elem hu hsz g off dLen dCap ⟨b0, o0, none⟩ _ sCap hd hs (bv G).toArray t hg (bv b) (by rw [bv_length]; exact (Nat.min_eq_left hm).symm) (fun j v hv => by rw [WideShapes.add_plain]; exact hc j v hv) (by simpa using hfit) (bv_one _) ?_
    have e : (bv G).toArray.toList.take off ++ (bv b ++ (bv G).toArray.toList.drop (off + (bv b).length)) = bv (G.take off ++ b ++ G.drop (off + b.length)) := by
      simp [bv, List.map_take, List.map_drop]
    rw [e, bv_length]
    exact h _ (setRow_heap w g _ _ t _ hg) ⟨rfl, rfl, rfl, by simp, fun k _ hk => setRow_other w g k _ hk⟩
end Go.Proofs.YtdldipkbknhhoaaDoor
