/- The document's prefixes: Get, GetText. -/
import Derived.Test.YtjkimabcpamdcaaPreC
namespace Go.Proofs.Ytjkimabcpamdcaa
open Go.RowKit

theorem and127 (c : UInt8) : bits .and .u8 (c.toNat : Int) 127 = (c.toNat : Int) % 128 := by
  have hc := UInt8.toNat_lt c
  have e2 : c.toNat &&& 127 = c.toNat % 128 := Nat.and_two_pow_sub_one_eq_mod _ 7
  rw [show (127 : Int) = ((127 : Nat) : Int) from rfl, u8_and_nat _ _ (by omega) (by omega), e2]; simp
theorem shift_bd2 (k : Nat) (hk1 : 1 ≤ k) (hk : k < 9) : (2 : Int) ^ (7 * (k - 1)) ≤ 562949953421312 := by
  have : k = 1 ∨ k = 2 ∨ k = 3 ∨ k = 4 ∨ k = 5 ∨ k = 6 ∨ k = 7 ∨ k = 8 := by omega
  rcases this with rfl | rfl | rfl | rfl | rfl | rfl | rfl | rfl <;> decide
theorem prod_bd2 (k : Nat) (hk1 : 1 ≤ k) (hk : k < 10) (p : Int) (h0 : 0 ≤ p) (h1 : p ≤ 127) (h9 : k = 9 → p ≤ 63) : 0 ≤ p * 2 ^ (7 * (k - 1)) ∧ p * 2 ^ (7 * (k - 1)) ≤ 4539628424389459968 := by
  have hS := shift_bd k hk
  refine ⟨Int.mul_nonneg h0 (by omega), ?_⟩
  by_cases h : k = 9
  · subst h
    have := h9 rfl
    simp only [show 7 * (9 - 1) = 56 from rfl, show (2 : Int) ^ 56 = 72057594037927936 from by decide]
    omega
  · have hS2 := shift_bd2 k hk1 (by omega)
    have := Int.mul_le_mul h1 hS2 (by omega) (by omega)
    omega
theorem prod_big (p : Int) (h : 63 < p) : 4611686018427387903 < p * 2 ^ (7 * (9 - 1)) := by
  simp only [show 7 * (9 - 1) = 56 from rfl, show (2 : Int) ^ 56 = 72057594037927936 from by decide]
  omega

set_option maxHeartbeats 400000 in
theorem rpget_nil (b : Nat) (A : Option Addr) (c : Nat) (w : World) (hb1 : 1 ≤ b) (hb8 : b ≤ 8) :
    Calls Try.prog 32 #[.slice A 0 c, .int .i64 b] w fun e w' => e = .returned (ptup (0, 0, 3)) ∧ w = w' := by
  have d1 : decide ((b : Int) < 1) = false := decide_eq_false (by omega)
  have d2 : decide ((8 : Int) < (b : Int)) = false := decide_eq_false (by omega)
  have d2' : decide (8 < b) = false := decide_eq_false (by omega)
  go_enter Try.func32, Try.ntmps32
  go_wp2
  go_ret3
  exact ⟨rfl, rfl⟩

set_option maxRecDepth 100000 in
set_option maxHeartbeats 1000000 in
theorem rpget_cons (x : UInt8) (r : List UInt8) (b : Nat) (A : Option Addr) (c : Nat) (w : World) (hb1 : 1 ≤ b) (hb8 : b ≤ 8) (hr : Rd w A (bv (x :: r))) (hm : r.length + 1 ≤ 140737488355328) :
    Calls Try.prog 32 #[.slice A (r.length + 1) c, .int .i64 b] w fun e w' => e = .returned (ptup (pget b (x :: r))) ∧ w = w' := by
  have d1 : decide ((b : Int) < 1) = false := decide_eq_false (by omega)
  have d2 : decide ((8 : Int) < (b : Int)) = false := decide_eq_false (by omega)
  have d2' : decide (8 < b) = false := decide_eq_false (by omega)
  obtain ⟨bl, off, rfl, hcell⟩ := hr (by simp)
  have h0 := hcell 0 _ (bv_get (k := 0) (by simp))
  simp only [List.getElem_cons_zero, Nat.add_zero] at h0
  replace hcell := Lib.hid hcell
  have hx := UInt8.toNat_lt x
  have hP := pmost_bd b hb1 hb8
  have hand := and_most x.toNat b hx hb8
  have HG : pget b (x :: r) = if (x.toNat : Int) % 2 ^ b < 2 ^ b - 1 then ((x.toNat : Int) % 2 ^ b, 1, 0) else ploop 9 1 ((x.toNat : Int) % 2 ^ b) r := rfl
  have hz : ((r.length : Int) + 1 == 0) = false := by rw [beq_eq_false_iff_ne]; omega
  have hm0 : 0 ≤ (x.toNat : Int) % 2 ^ b ∧ (x.toNat : Int) % 2 ^ b ≤ 2 ^ b - 1 := by
    have := Int.emod_nonneg (x.toNat : Int) (show (2 : Int) ^ b ≠ 0 by omega)
    have := Int.emod_lt_of_pos (x.toNat : Int) (show (0 : Int) < 2 ^ b by omega)
    omega
  obtain ⟨P, hPe⟩ : ∃ P, (2 : Int) ^ b = P := ⟨_, rfl⟩
  rw [hPe] at hP hand HG hm0
  obtain ⟨m, hme⟩ : ∃ m, (x.toNat : Int) % P = m := ⟨_, rfl⟩
  rw [hme] at hm0 hand HG
  replace HG := Lib.hid HG
  clear hme
  by_cases hlt : m < P - 1
  · go_enter Try.func32, Try.ntmps32
    go_wp2_with fail
    go_ret3
    exact ⟨by rw [HG.out, if_pos hlt]; rfl, rfl⟩
  · obtain ⟨res, hres⟩ : ∃ res, ploop 9 1 m r = res := ⟨_, rfl⟩
    have HR : pget b (x :: r) = res := by rw [HG.out, if_neg hlt, hres]
    replace HR := Lib.hid HR
    have HRES := Lib.hid hres
    clear hres HG
    go_enter Try.func32, Try.ntmps32
    go_wp2_with fail
    go_loop [8, 9] (fun n i => ∃ (k : Nat) (N : Int), 1 ≤ k ∧ k ≤ 10 ∧ k ≤ r.length + 1 ∧ i = .int .i64 k ∧ n = .int .u64 N ∧ 0 ≤ N ∧ N ≤ 4611686018427387903 ∧ Hid (ploop (10 - k) k N (r.drop (k - 1)) = res)) (fun _ i => 10 - (intOf i).toNat)
    case atStart => exact ⟨1, m, by omega, by omega, by omega, rfl, rfl, by omega, by omega, HRES⟩
    case round =>
      obtain ⟨k, N, hk1, hk10, hkr, rfl, rfl, hN0, hN1, HL⟩ := hrel
      by_cases hk : k < 10
      · have g1 : decide ((10 : Int) ≤ (k : Int)) = false := decide_eq_false (by omega)
        have g1' : decide (10 ≤ k) = false := decide_eq_false (by omega)
        by_cases hkl : k = r.length + 1
        · have g2 : decide ((r.length : Int) + 1 ≤ (k : Int)) = true := decide_eq_true (by omega)
          have g2' : decide (r.length + 1 ≤ k) = true := decide_eq_true (by omega)
          have HE : res = (0, 0, 3) := by
            rw [← HL.out, List.drop_of_length_le (by omega)]
            obtain ⟨f, hf⟩ : ∃ f, 10 - k = f + 1 := ⟨9 - k, by omega⟩
            rw [hf]; rfl
          replace HE := Lib.hid HE
          replace hkl := Lib.hid hkl
          go_wp2_with fail
          go_ret3
          exact ⟨by rw [HR.out, HE.out]; rfl, rfl⟩
        · have g2 : decide ((r.length : Int) + 1 ≤ (k : Int)) = false := decide_eq_false (by omega)
          have g2' : decide (r.length + 1 ≤ k) = false := decide_eq_false (by omega)
          have hg := hcell.out k _ (bv_get (l := x :: r) (by simp; omega))
          obtain ⟨cb, hcb⟩ : ∃ cb, (x :: r)[k]'(by simp; omega) = cb := ⟨_, rfl⟩
          rw [hcb] at hg
          have hdrop : r.drop (k - 1) = cb :: r.drop k := by
            rw [List.drop_eq_getElem_cons (by omega), ← hcb]
            obtain ⟨j, rfl⟩ : ∃ j, k = j + 1 := ⟨k - 1, by omega⟩
            rfl
          have hS := shift_bd k hk
          have ha := and127 cb
          have HSTEP : ploop (10 - k) k N (r.drop (k - 1)) = if 4611686018427387903 < N + (cb.toNat : Int) % 128 * 2 ^ (7 * (k - 1)) then (0, 0, 4) else if cb.toNat < 128 then (N + (cb.toNat : Int) % 128 * 2 ^ (7 * (k - 1)), (k : Int) + 1, 0) else ploop (10 - (k + 1)) (k + 1) (N + (cb.toNat : Int) % 128 * 2 ^ (7 * (k - 1))) (r.drop (k + 1 - 1)) := by
            obtain ⟨f, hf⟩ : ∃ f, 10 - k = f + 1 := ⟨9 - k, by omega⟩
            rw [hdrop, hf, show 10 - (k + 1) = f from by omega, Nat.add_sub_cancel]; rfl
          rw [HL.out] at HSTEP
          have hcl := UInt8.toNat_lt cb
          have hp : 0 ≤ (cb.toNat : Int) % 128 ∧ (cb.toNat : Int) % 128 ≤ 127 := by omega
          have hlt : k < r.length + 1 := by omega
          have hltI : (k : Int) < (r.length : Int) + 1 := by omega
          by_cases h9 : k = 9 ∧ 63 < (cb.toNat : Int) % 128
          · obtain ⟨rfl, h63⟩ := h9
            have hbig := prod_big _ h63
            obtain ⟨p, hpe⟩ : ∃ p, (cb.toNat : Int) % 128 = p := ⟨_, rfl⟩
            rw [hpe] at ha HSTEP hp h63 hbig
            have HE := Lib.hid (HSTEP.trans (if_pos (by omega)))
            have g3 : decide (63 < p) = true := decide_eq_true h63
            clear hcb hdrop hpe HSTEP hbig hS
            go_wp2_with fail
            go_ret3
            exact ⟨by rw [HR.out, HE.out]; rfl, rfl⟩
          · have hT := prod_bd2 k hk1 hk _ hp.1 hp.2 (fun e => by omega)
            obtain ⟨t9, ht9⟩ : ∃ t9, ((k : Int) == 9) = t9 := ⟨_, rfl⟩
            have hc9 : t9 = false ∨ (t9 = true ∧ ¬ 63 < (cb.toNat : Int) % 128) := by
              by_cases e : k = 9
              · right; exact ⟨by rw [← ht9, beq_iff_eq]; omega, by omega⟩
              · left; rw [← ht9, beq_eq_false_iff_ne]; omega
            obtain ⟨S, hSe⟩ : ∃ S, (2 : Int) ^ (7 * (k - 1)) = S := ⟨_, rfl⟩
            obtain ⟨p, hpe⟩ : ∃ p, (cb.toNat : Int) % 128 = p := ⟨_, rfl⟩
            rw [hSe] at hS HSTEP hT
            rw [hpe] at ha HSTEP hp hT hc9
            obtain ⟨T, hTe⟩ : ∃ T, p * S = T := ⟨_, rfl⟩
            rw [hTe] at hT HSTEP
            replace HSTEP := Lib.hid HSTEP
            replace h9 := Lib.hid h9
            clear hcb hdrop hpe
            by_cases hc2 : 4611686018427387903 < N + T
            · have hd2 : decide (4611686018427387903 < N + T) = true := decide_eq_true hc2
              rcases hc9 with rfl | ⟨rfl, h63⟩
              · go_wp2_with fail
                go_ret3
                exact ⟨by rw [HR.out, HSTEP.out, if_pos hc2]; rfl, rfl⟩
              · have g3 : decide (63 < p) = false := decide_eq_false h63
                go_wp2_with fail
                go_ret3
                exact ⟨by rw [HR.out, HSTEP.out, if_pos hc2]; rfl, rfl⟩
            · have hd2 : decide (4611686018427387903 < N + T) = false := decide_eq_false hc2
              by_cases hc3 : cb.toNat < 128
              · have HE := Lib.hid (HSTEP.out.trans ((if_neg hc2).trans (if_pos hc3)))
                rcases hc9 with rfl | ⟨rfl, h63⟩
                · go_wp2_with fail
                  go_ret3
                  exact ⟨by rw [HR.out, HE.out]; rfl, rfl⟩
                · have g3 : decide (63 < p) = false := decide_eq_false h63
                  go_wp2_with fail
                  go_ret3
                  exact ⟨by rw [HR.out, HE.out]; rfl, rfl⟩
              · have HN : Hid (ploop (10 - (k + 1)) (k + 1) (N + T) (r.drop (k + 1 - 1)) = res) := by
                  have := HSTEP.out
                  rw [if_neg hc2, if_neg hc3] at this
                  exact Lib.hid this.symm
                rcases hc9 with rfl | ⟨rfl, h63⟩
                · go_wp2_with fail
                  go_round
                  case rel => exact ⟨k + 1, N + T, by omega, by omega, by omega, by go_num, rfl, by omega, by omega, HN⟩
                  case measure => simp [intOf]; omega
                · have g3 : decide (63 < p) = false := decide_eq_false h63
                  go_wp2_with fail
                  go_round
                  case rel => exact ⟨k + 1, N + T, by omega, by omega, by omega, by go_num, rfl, by omega, by omega, HN⟩
                  case measure => simp [intOf]; omega
      · have hk' : k = 10 := by omega
        subst hk'
        have HE : res = (0, 0, 4) := by rw [← HL.out]; rfl
        replace HE := Lib.hid HE
        go_wp2_with fail
        go_ret3
        exact ⟨by rw [HR.out, HE.out]; rfl, rfl⟩

theorem rpget_any (l : List UInt8) (b : Nat) (A : Option Addr) (c : Nat) (w : World) (hb1 : 1 ≤ b) (hb8 : b ≤ 8) (hr : Rd w A (bv l)) (hm : l.length ≤ 140737488355328) :
    Calls Try.prog 32 #[.slice A l.length c, .int .i64 b] w fun e w' => e = .returned (ptup (pget b l)) ∧ w = w' := by
  match l, hr, hm with
  | [], _, _ => exact rpget_nil b A c w hb1 hb8
  | x :: r, hr, hm => exact rpget_cons x r b A c w hb1 hb8 hr hm

set_option maxRecDepth 100000 in
set_option maxHeartbeats 2000000 in
theorem rgettext_cons (x : UInt8) (r : List UInt8) (b : Nat) (A : Option Addr) (c : Nat) (w : World) (hb1 : 1 ≤ b) (hb7 : b ≤ 7) (hr : Rd w A (bv (x :: r))) (hm : r.length + 1 ≤ 140737488355328) (hc : r.length + 1 ≤ c) (hcc : c ≤ 9223372036854775807) :
    Calls Try.prog 33 #[.slice A (r.length + 1) c, .int .i64 b] w fun e w' => e = .returned (tpgettext b (x :: r)) ∧ w = w' := by
  have d1 : decide ((b : Int) < 1) = false := decide_eq_false (by omega)
  have d2 : decide ((7 : Int) < (b : Int)) = false := decide_eq_false (by omega)
  have d2' : decide (7 < b) = false := decide_eq_false (by omega)
  have hlI : (0 : Int) < (r.length : Int) + 1 := by omega
  have hlD : decide ((0 : Int) < (r.length : Int) + 1) = true := decide_eq_true (by omega)
  have C := Lib.hid (rpget_any (x :: r) b A c w hb1 (by omega) hr hm)
  have HOK := Lib.hid (pget_ok b x r hb1 (by omega))
  have HD := Lib.hid (fun k (h : k ≤ (bv (x :: r)).length) => hr.drop (k := k) (cap := c) h (by simpa using hc))
  obtain ⟨bl, off, rfl, hcell⟩ := hr (by simp)
  have h0 := hcell 0 _ (bv_get (k := 0) (by simp))
  simp only [List.getElem_cons_zero, Nat.add_zero] at h0
  clear hcell
  have hx := UInt8.toNat_lt x
  have hP := pmost_bd b hb1 (by omega)
  have hz : ((r.length : Int) + 1 == 0) = false := by rw [beq_eq_false_iff_ne]; omega
  have hand := shr_bit x.toNat b hx hb1 hb7
  have HG : pgettext b (x :: r) = if (x.toNat : Int) / 2 ^ b % 2 = 1 then ([], 0, 6)
    else if (pget b (x :: r)).2.2 ≠ 0 then ([], 0, (pget b (x :: r)).2.2)
    else if 2000 < (pget b (x :: r)).1 then ([], 0, 4)
    else if ((x :: r).length : Int) - (pget b (x :: r)).2.1 < (pget b (x :: r)).1 then ([], 0, 3)
    else (((x :: r).drop (pget b (x :: r)).2.1.toNat).take (pget b (x :: r)).1.toNat, (pget b (x :: r)).2.1 + (pget b (x :: r)).1, 0) := rfl
  obtain ⟨t, hte⟩ : ∃ t, (x.toNat : Int) / 2 ^ b % 2 = t := ⟨_, rfl⟩
  rw [hte] at hand HG
  have ht : t = 0 ∨ t = 1 := by omega
  obtain ⟨g, hge⟩ : ∃ g, pget b (x :: r) = g := ⟨_, rfl⟩
  rw [hge] at C HOK HG
  obtain ⟨N, a, e⟩ := g
  simp only [] at HG HOK
  replace HG := Lib.hid HG
  clear hte hge
  unfold tpgettext
  rcases ht with rfl | rfl
  · by_cases he : e = 0
    · subst he
      obtain ⟨hN0, hN1, ha1, ha2⟩ := HOK.out rfl
      obtain ⟨n, rfl⟩ := Int.eq_ofNat_of_zero_le hN0
      obtain ⟨a, rfl⟩ := Int.eq_ofNat_of_zero_le (show 0 ≤ a by omega)
      by_cases hb : 2000 < (n : Int)
      · have HE := Lib.hid (HG.out.trans (by rw [if_neg (by omega), if_neg (by simp), if_pos hb]))
        go_enter Try.func33, Try.ntmps33
        go_wp2_with fail
        refine C.out.mono ?_
        rintro e w' ⟨rfl, rfl⟩
        simp only [ptup]
        go_wp2_with fail
        go_ret3
        exact ⟨by rw [HE.out]; rfl, rfl⟩
      · by_cases hsh : (r.length : Int) + 1 - a < n
        · have HE := Lib.hid (HG.out.trans (by rw [if_neg (by omega), if_neg (by simp), if_neg hb, if_pos (by simpa using hsh)]))
          go_enter Try.func33, Try.ntmps33
          go_wp2_with fail
          refine C.out.mono ?_
          rintro e w' ⟨rfl, rfl⟩
          simp only [ptup]
          go_wp2_with fail
          go_ret3
          exact ⟨by rw [HE.out]; rfl, rfl⟩
        · have hd := HD.out a (by simp; omega)
          have htk := hd.take n
          rw [← bv_drop, ← bv_take] at htk
          have hlen : (((x :: r).drop a).take n).length = n := by simp; omega
          have HE : pgettext b (x :: r) = (((x :: r).drop a).take n, (a : Int) + n, 0) := HG.out.trans (by rw [if_neg (by omega), if_neg (by simp), if_neg hb, if_neg (by simpa using hsh)]; rfl)
          have hconv := run_conv_bytes (P := Try.prog) (src := 26) (dst := 9) (e := 5) Try.underlying26 Try.underlying5 Try.underlying9 (c := c - a) htk
          rw [hlen] at hconv
          rw [HE]
          generalize ((x :: r).drop a).take n = out at hconv
          clear HE HG htk hd hlen HD
          obtain ⟨S, hSe⟩ : ∃ S : ByteArray, (⟨out.toArray⟩ : ByteArray) = S := ⟨_, rfl⟩
          simp only [hSe] at hconv ⊢
          clear hSe
          by_cases hca : c = a
          · subst hca
            have hn0 : n = 0 := by omega
            subst hn0
            rw [if_pos rfl] at hconv
            simp only [Nat.sub_self] at hconv
            go_enter Try.func33, Try.ntmps33
            go_wp2_with fail
            refine C.out.mono ?_
            rintro e w' ⟨rfl, rfl⟩
            simp only [ptup]
            go_wp2_with fail
            go_ret3
            exact ⟨rfl, rfl⟩
          · rw [if_neg hca] at hconv
            simp only [Option.map_some, WideShapes.add_plain] at hconv
            go_enter Try.func33, Try.ntmps33
            go_wp2_with fail
            refine C.out.mono ?_
            rintro e w' ⟨rfl, rfl⟩
            simp only [ptup]
            go_wp2_with fail
            go_ret3
            exact ⟨rfl, rfl⟩
    · have HE := Lib.hid (HG.out.trans (by rw [if_neg (by omega), if_pos he]))
      have hne : (e != 0) = true := by rw [bne_iff_ne]; exact he
      clear he
      go_enter Try.func33, Try.ntmps33
      go_wp2_with fail
      refine C.out.mono ?_
      rintro e w' ⟨rfl, rfl⟩
      simp only [ptup]
      go_wp2_with fail
      go_ret3
      exact ⟨by rw [HE.out]; rfl, rfl⟩
  · have HE := Lib.hid (HG.out.trans (by rw [if_pos rfl]))
    go_enter Try.func33, Try.ntmps33
    go_wp2_with fail
    go_ret3
    exact ⟨by rw [HE.out]; rfl, rfl⟩

theorem rgettext_any (l : List UInt8) (b : Nat) (A : Option Addr) (c : Nat) (w : World) (hb1 : 1 ≤ b) (hb7 : b ≤ 7) (hr : Rd w A (bv l)) (hm : l.length ≤ 140737488355328) (hc : l.length ≤ c) (hcc : c ≤ 9223372036854775807) :
    Calls Try.prog 33 #[.slice A l.length c, .int .i64 b] w fun e w' => e = .returned (tpgettext b l) ∧ w = w' := by
  have d1 : decide ((b : Int) < 1) = false := decide_eq_false (by omega)
  have d2 : decide ((7 : Int) < (b : Int)) = false := decide_eq_false (by omega)
  have d2' : decide (7 < b) = false := decide_eq_false (by omega)
  match l, hr, hm, hc with
  | [], _, _, _ =>
    have C := Lib.hid (rpget_nil b A c w hb1 (by omega))
    go_enter Try.func33, Try.ntmps33
    go_wp2_with fail
    refine C.out.mono ?_
    rintro e w' ⟨rfl, rfl⟩
    simp only [ptup]
    go_wp2_with fail
    go_ret3
    exact ⟨rfl, rfl⟩
  | x :: r, hr, hm, hc => exact rgettext_cons x r b A c w hb1 hb7 hr hm hc hcc
end Go.Proofs.Ytjkimabcpamdcaa
