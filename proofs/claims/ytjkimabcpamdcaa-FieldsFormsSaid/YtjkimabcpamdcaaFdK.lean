/- FieldsForms: it is true at every input. -/
import Derived.Test.YtjkimabcpamdcaaFdJ
import Derived.Test.YtjkimabcpamdcaaLow
namespace Go.Proofs.Ytjkimabcpamdcaa
open Go.RowKit

set_option maxRecDepth 100000 in
set_option maxHeartbeats 8000000 in
theorem forms_any (which long name : Int) (w : World) :
    Calls Try.prog 4 #[.int .i64 which, .int .i64 long, .int .i64 name] w fun e w' => e = .returned (.bool true) ∧ Below w.heap.size w w' := by
  obtain ⟨m, hm, L1⟩ := low_ex long 101 (by omega) (by omega)
  obtain ⟨j, hj, L2⟩ := low_ex name 50 (by omega) (by omega)
  obtain ⟨k, hk, L3⟩ := low_ex which 12 (by omega) (by omega)
  replace L1 := Lib.hid L1
  replace L2 := Lib.hid L2
  replace L3 := Lib.hid L3
  obtain ⟨n, hn⟩ : ∃ n, j + 1 = n := ⟨_, rfl⟩
  have hnI : 1 + (j : Int) = (n : Int) := by omega
  have hm2 : m ≤ 100 := by omega
  have hn2 : n ≤ 50 := by omega
  replace hn := Lib.hid hn
  go_enter Try.func4, Try.ntmps4
  go_wp2_with fail
  refine (L1.out _).mono ?_
  rintro e w1 ⟨rfl, rfl⟩
  go_wp2_with fail
  refine (L2.out _).mono ?_
  rintro e w1 ⟨rfl, rfl⟩
  go_wp2_with fail
  clear L1 L2
  go_loopw [7, 9] (fun v i wr => ∃ q : Nat, q ≤ m ∧ v = .string (rep 113 q) ∧ i = .int .i64 q ∧ wr = w) (fun _ i _ => m - (intOf i).toNat)
  case atStart => exact ⟨0, by omega, rfl, rfl, rfl⟩
  case round =>
    obtain ⟨q, hq, rfl, rfl, rfl⟩ := hrel
    by_cases hqm : q < m
    · have d0 : decide (q < m) = true := decide_eq_true hqm
      have d1 : decide ((q : Int) < (m : Int)) = true := decide_eq_true (by omega)
      have hr := rep_succ 113 q
      have hz := rep_size 113 q
      go_wp2_with fail
      refine ⟨⟨q + 1, by omega, rfl, by rw [Int.natCast_succ], trivial⟩, ?_⟩
      simp only [intOf]
      omega
    · obtain rfl : q = m := by omega
      have d0 : decide (q < q) = false := decide_eq_false (by omega)
      have d1 : decide ((q : Int) < (q : Int)) = false := decide_eq_false (by omega)
      go_wp2_with fail
      clear d0 d1
      go_loopw [8, 10] (fun v i w2 => ∃ p : Nat, p ≤ n ∧ v = .string (rep 122 p) ∧ i = .int .i64 p ∧ w2 = wr) (fun _ i _ => n - (intOf i).toNat)
      case atStart => exact ⟨0, by omega, rfl, rfl, rfl⟩
      case round =>
        obtain ⟨p, hp, rfl, rfl, rfl⟩ := hrel
        by_cases hpn : p < n
        · have d0 : decide (p < n) = true := decide_eq_true hpn
          have d1 : decide ((p : Int) < (n : Int)) = true := decide_eq_true (by omega)
          have hr := rep_succ 122 p
          have hz := rep_size 122 p
          go_wp2_with fail
          refine ⟨⟨p + 1, by omega, rfl, by rw [Int.natCast_succ], trivial⟩, ?_⟩
          simp only [intOf]
          omega
        · obtain rfl : p = n := by omega
          have d0 : decide (p < p) = false := decide_eq_false (by omega)
          have d1 : decide ((p : Int) < (p : Int)) = false := decide_eq_false (by omega)
          have HB := (Below.refl _ wr).alloc (Nat.le_refl _) (.cells ((hd12.map Value.string).toArray) 9)
          have HR := Rd.fresh wr (hd12.map Value.string) 9
          obtain ⟨b, off, e1, x0⟩ := HR.at_ (k := k) (by simp [hd12]; omega)
          injection e1 with e1; injection e1 with e1 e2; subst e1 e2
          replace x0 : _ = some (Value.string (hd12k k)) := x0.trans (by
            rw [List.getElem_map]; unfold hd12k; rw [List.getD_eq_getElem?_getD, List.getElem?_eq_getElem (by simp [hd12]; omega)]; rfl)
          obtain ⟨W1, hW1⟩ : ∃ W1, wr.alloc (.cells ((hd12.map Value.string).toArray) 9) = W1 := ⟨_, rfl⟩
          rw [hW1] at x0 HB
          obtain ⟨g, hg⟩ : ∃ g, wr.heap.size = g := ⟨_, rfl⟩
          rw [hg] at x0
          simp only [Nat.zero_add] at x0
          replace hW1 : wr.alloc (.cells #[.string ⟨#[58, 97, 117, 116, 104, 111, 114, 105, 116, 121]⟩, .string ⟨#[58, 112, 97, 116, 104]⟩, .string ⟨#[58, 109, 101, 116, 104, 111, 100]⟩, .string ⟨#[58, 115, 99, 104, 101, 109, 101]⟩, .string ⟨#[58, 115, 116, 97, 116, 117, 115]⟩, .string ⟨#[97, 99, 99, 101, 112, 116]⟩, .string ⟨#[99, 111, 110, 116, 101, 110, 116, 45, 108, 101, 110, 103, 116, 104]⟩, .string ⟨#[99, 111, 110, 116, 101, 110, 116, 45, 116, 121, 112, 101]⟩, .string ⟨#[99, 111, 111, 107, 105, 101]⟩, .string ⟨#[100, 97, 116, 101]⟩, .string ⟨#[101, 116, 97, 103]⟩, .string ⟨#[117, 115, 101, 114, 45, 97, 103, 101, 110, 116]⟩] 9) = W1 := hW1
          replace hW1 := Lib.hid hW1
          replace hg := Lib.hid hg
          replace HB := Lib.hid HB
          clear HR
          go_wp2_with fail
          rw [hW1.out, hg.out]
          refine (L3.out _).mono ?_
          rintro e w3 ⟨rfl, rfl⟩
          clear L3 hW1
          have hk0 : (0 : Int) ≤ (k : Int) := by omega
          have hkI : (k : Int) < 12 := by omega
          go_wp2_with fail
          have LA := Lib.hid (fun W => line_any (hd12k k) (rep 113 q) W (hd12_size k hk) (by rw [rep_size]; omega))
          refine (LA.out _).mono ?_
          clear LA
          have key : ∃ la, (fline ⟨hd12k k, rep 113 q⟩).length = la ∧ ((q = 0 ∧ k = 0 ∧ la = 1) ∨ (q = 0 ∧ 0 < k ∧ k < 8 ∧ la = 2) ∨ (q = 0 ∧ 8 ≤ k ∧ k ≠ 11 ∧ la = 1) ∨ (q = 0 ∧ k = 11 ∧ la = 1) ∨ (0 < q ∧ k ≠ 11 ∧ la = 2 + q) ∨ (0 < q ∧ k = 11 ∧ la = 3 + q)) := by
            refine ⟨_, rfl, ?_⟩
            rcases Nat.eq_zero_or_pos q with h0 | h0
            · have := forms0 k hk
              rw [h0]
              split at this <;> omega
            · have := forms_a k q hk hm h0
              split at this <;> omega
          obtain ⟨la, hla, key⟩ := key
          replace key := Lib.hid key
          rw [hla]
          rintro e w4 ⟨A1, c1, rfl, o1, b1⟩
          replace HB := Lib.hid (HB.out.trans (b1.mono HB.out.size))
          clear b1 o1 hla x0
          go_wp2_with fail
          have keyb : ∃ lb, (fline ⟨rep 122 p, rep 113 q⟩).length = lb ∧ lb = (if 7 ≤ p then 2 else 1) + p + 1 + q := by
            refine ⟨_, rfl, ?_⟩
            have := forms_b j q hj hm
            rw [hn.out] at this
            rw [this]; omega
          obtain ⟨lb, hlb, keyb⟩ := keyb
          replace keyb := Lib.hid keyb
          have LB := Lib.hid (fun W => line_any (rep 122 p) (rep 113 q) W (by rw [rep_size]; omega) (by rw [rep_size]; omega))
          rw [hlb] at LB
          refine (LB.out _).mono ?_
          rintro e w5 ⟨A2, c2, rfl, o2, b2⟩
          replace HB := Lib.hid (HB.out.trans (b2.mono HB.out.size))
          clear b2 o2 hlb LB
          go_wp2_with fail
          have LC := Lib.hid (fun W => line_any mth ⟨#[80, 79, 83, 84]⟩ W (by decide) (by decide))
          rw [forms6] at LC
          refine (LC.out _).mono ?_
          rintro e w6 ⟨A3, c3, rfl, o3, b3⟩
          simp only [List.length_cons, List.length_nil] at o3 ⊢
          replace HB := Lib.hid (HB.out.trans (b3.mono HB.out.size))
          have r3 := Lib.hid (Rd.of_own o3)
          clear b3 o3 LC
          have d127 : decide ((127 : Int) ≤ (q : Int)) = false := decide_eq_false (by omega)
          have hd : Hid (∃ hd : Nat, (hd = 1 ∧ p < 7 ∨ hd = 2 ∧ 7 ≤ p) ∧ lb = hd + p + 1 + q) := Lib.hid (by
            have := keyb.out
            split at this
            · exact ⟨2, by omega, this⟩
            · exact ⟨1, by omega, this⟩)
          have HO := Lib.hid (fun W (hW : Below w6.heap.size w6 W) => (⟨r3.out.below hW, HB.out.trans (hW.mono HB.out.size)⟩ : Rd W A3 (bv [195]) ∧ Below wr.heap.size wr W))
          clear hg HB r3 keyb
          obtain ⟨hd, hd1, hlb⟩ := hd.out
          rcases hd1 with ⟨rfl, h7⟩ | ⟨rfl, h7⟩
          · have d7 : decide ((7 : Int) ≤ (p : Int)) = false := decide_eq_false (by omega)
            have dlb : ((lb : Int) == 1 + (p : Int) + 1 + (q : Int)) = true := by rw [beq_iff_eq]; omega
            replace hlb := Lib.hid hlb
            rcases key.out with h | h | h | h | h | h
            · have e1 : ((q : Int) == 0) = true := by first | (rw [beq_iff_eq]; omega) | (rw [beq_eq_false_iff_ne]; omega)
              have e2 : ((k : Int) == 0) = true := by first | (rw [beq_iff_eq]; omega) | (rw [beq_eq_false_iff_ne]; omega)
              have e3 : decide ((8 : Int) ≤ (k : Int)) = false := by first | exact decide_eq_true (by omega) | exact decide_eq_false (by omega)
              have e4 : ((k : Int) == 11) = false := by first | (rw [beq_iff_eq]; omega) | (rw [beq_eq_false_iff_ne]; omega)
              have e5 : ((la : Int) == 1) = true := by first | (rw [beq_iff_eq]; omega) | (rw [beq_eq_false_iff_ne]; omega)
              clear h
              go_wp2_with fail
              have W7 := (Below.refl _ w6).alloc (Nat.le_refl _) (.cells #[.int .u8 195] 5)
              refine (same_any [195] [195] A3 (some ⟨w6.heap.size, 0, none⟩) c3 1 _ (HO.out _ W7).1 (Rd.fresh w6 (bv [195]) 5) (by decide) (by decide)).mono ?_
              rintro e w8 ⟨rfl, u, rfl⟩
              have HF := Lib.hid (HO.out _ ((Fr.of_below W7 NoS).drewN u |>.below)).2
              clear W7
              go_wp2_with fail
              refine (awake_any _).mono ?_
              rintro e w9 ⟨rfl, b9⟩
              have HG := Lib.hid (HF.out.trans (b9.mono HF.out.size))
              clear b9
              go_wp2_with fail
              go_ret
              exact ⟨rfl, HG.out⟩
            · have e1 : ((q : Int) == 0) = true := by first | (rw [beq_iff_eq]; omega) | (rw [beq_eq_false_iff_ne]; omega)
              have e2 : ((k : Int) == 0) = false := by first | (rw [beq_iff_eq]; omega) | (rw [beq_eq_false_iff_ne]; omega)
              have e3 : decide ((8 : Int) ≤ (k : Int)) = false := by first | exact decide_eq_true (by omega) | exact decide_eq_false (by omega)
              have e4 : ((k : Int) == 11) = false := by first | (rw [beq_iff_eq]; omega) | (rw [beq_eq_false_iff_ne]; omega)
              have e5 : ((la : Int) == 1) = false := by first | (rw [beq_iff_eq]; omega) | (rw [beq_eq_false_iff_ne]; omega)
              have e6 : ((la : Int) != 2 + (q : Int)) = false := by rw [bne_eq_false_iff_eq]; omega
              clear h
              go_wp2_with fail
              have W7 := (Below.refl _ w6).alloc (Nat.le_refl _) (.cells #[.int .u8 195] 5)
              refine (same_any [195] [195] A3 (some ⟨w6.heap.size, 0, none⟩) c3 1 _ (HO.out _ W7).1 (Rd.fresh w6 (bv [195]) 5) (by decide) (by decide)).mono ?_
              rintro e w8 ⟨rfl, u, rfl⟩
              have HF := Lib.hid (HO.out _ ((Fr.of_below W7 NoS).drewN u |>.below)).2
              clear W7
              go_wp2_with fail
              refine (awake_any _).mono ?_
              rintro e w9 ⟨rfl, b9⟩
              have HG := Lib.hid (HF.out.trans (b9.mono HF.out.size))
              clear b9
              go_wp2_with fail
              go_ret
              exact ⟨rfl, HG.out⟩
            · have e1 : ((q : Int) == 0) = true := by first | (rw [beq_iff_eq]; omega) | (rw [beq_eq_false_iff_ne]; omega)
              have e2 : ((k : Int) == 0) = false := by first | (rw [beq_iff_eq]; omega) | (rw [beq_eq_false_iff_ne]; omega)
              have e3 : decide ((8 : Int) ≤ (k : Int)) = true := by first | exact decide_eq_true (by omega) | exact decide_eq_false (by omega)
              have e4 : ((k : Int) == 11) = false := by first | (rw [beq_iff_eq]; omega) | (rw [beq_eq_false_iff_ne]; omega)
              have e5 : ((la : Int) == 1) = true := by first | (rw [beq_iff_eq]; omega) | (rw [beq_eq_false_iff_ne]; omega)
              clear h
              go_wp2_with fail
              have W7 := (Below.refl _ w6).alloc (Nat.le_refl _) (.cells #[.int .u8 195] 5)
              refine (same_any [195] [195] A3 (some ⟨w6.heap.size, 0, none⟩) c3 1 _ (HO.out _ W7).1 (Rd.fresh w6 (bv [195]) 5) (by decide) (by decide)).mono ?_
              rintro e w8 ⟨rfl, u, rfl⟩
              have HF := Lib.hid (HO.out _ ((Fr.of_below W7 NoS).drewN u |>.below)).2
              clear W7
              go_wp2_with fail
              refine (awake_any _).mono ?_
              rintro e w9 ⟨rfl, b9⟩
              have HG := Lib.hid (HF.out.trans (b9.mono HF.out.size))
              clear b9
              go_wp2_with fail
              go_ret
              exact ⟨rfl, HG.out⟩
            · have e1 : ((q : Int) == 0) = true := by first | (rw [beq_iff_eq]; omega) | (rw [beq_eq_false_iff_ne]; omega)
              have e2 : ((k : Int) == 0) = false := by first | (rw [beq_iff_eq]; omega) | (rw [beq_eq_false_iff_ne]; omega)
              have e3 : decide ((8 : Int) ≤ (k : Int)) = true := by first | exact decide_eq_true (by omega) | exact decide_eq_false (by omega)
              have e4 : ((k : Int) == 11) = true := by first | (rw [beq_iff_eq]; omega) | (rw [beq_eq_false_iff_ne]; omega)
              have e5 : ((la : Int) == 1) = true := by first | (rw [beq_iff_eq]; omega) | (rw [beq_eq_false_iff_ne]; omega)
              clear h
              go_wp2_with fail
              have W7 := (Below.refl _ w6).alloc (Nat.le_refl _) (.cells #[.int .u8 195] 5)
              refine (same_any [195] [195] A3 (some ⟨w6.heap.size, 0, none⟩) c3 1 _ (HO.out _ W7).1 (Rd.fresh w6 (bv [195]) 5) (by decide) (by decide)).mono ?_
              rintro e w8 ⟨rfl, u, rfl⟩
              have HF := Lib.hid (HO.out _ ((Fr.of_below W7 NoS).drewN u |>.below)).2
              clear W7
              go_wp2_with fail
              refine (awake_any _).mono ?_
              rintro e w9 ⟨rfl, b9⟩
              have HG := Lib.hid (HF.out.trans (b9.mono HF.out.size))
              clear b9
              go_wp2_with fail
              go_ret
              exact ⟨rfl, HG.out⟩
            · have e1 : ((q : Int) == 0) = false := by first | (rw [beq_iff_eq]; omega) | (rw [beq_eq_false_iff_ne]; omega)
              have e4 : ((k : Int) == 11) = false := by first | (rw [beq_iff_eq]; omega) | (rw [beq_eq_false_iff_ne]; omega)
              have e5 : ((la : Int) == 1) = false := by first | (rw [beq_iff_eq]; omega) | (rw [beq_eq_false_iff_ne]; omega)
              have e6 : ((la : Int) != 2 + (q : Int)) = false := by rw [bne_eq_false_iff_eq]; omega
              clear h
              go_wp2_with fail
              have W7 := (Below.refl _ w6).alloc (Nat.le_refl _) (.cells #[.int .u8 195] 5)
              refine (same_any [195] [195] A3 (some ⟨w6.heap.size, 0, none⟩) c3 1 _ (HO.out _ W7).1 (Rd.fresh w6 (bv [195]) 5) (by decide) (by decide)).mono ?_
              rintro e w8 ⟨rfl, u, rfl⟩
              have HF := Lib.hid (HO.out _ ((Fr.of_below W7 NoS).drewN u |>.below)).2
              clear W7
              go_wp2_with fail
              refine (awake_any _).mono ?_
              rintro e w9 ⟨rfl, b9⟩
              have HG := Lib.hid (HF.out.trans (b9.mono HF.out.size))
              clear b9
              go_wp2_with fail
              go_ret
              exact ⟨rfl, HG.out⟩
            · have e1 : ((q : Int) == 0) = false := by first | (rw [beq_iff_eq]; omega) | (rw [beq_eq_false_iff_ne]; omega)
              have e4 : ((k : Int) == 11) = true := by first | (rw [beq_iff_eq]; omega) | (rw [beq_eq_false_iff_ne]; omega)
              have e5 : ((la : Int) == 1) = false := by first | (rw [beq_iff_eq]; omega) | (rw [beq_eq_false_iff_ne]; omega)
              have e6 : ((la : Int) != 3 + (q : Int)) = false := by rw [bne_eq_false_iff_eq]; omega
              clear h
              go_wp2_with fail
              have W7 := (Below.refl _ w6).alloc (Nat.le_refl _) (.cells #[.int .u8 195] 5)
              refine (same_any [195] [195] A3 (some ⟨w6.heap.size, 0, none⟩) c3 1 _ (HO.out _ W7).1 (Rd.fresh w6 (bv [195]) 5) (by decide) (by decide)).mono ?_
              rintro e w8 ⟨rfl, u, rfl⟩
              have HF := Lib.hid (HO.out _ ((Fr.of_below W7 NoS).drewN u |>.below)).2
              clear W7
              go_wp2_with fail
              refine (awake_any _).mono ?_
              rintro e w9 ⟨rfl, b9⟩
              have HG := Lib.hid (HF.out.trans (b9.mono HF.out.size))
              clear b9
              go_wp2_with fail
              go_ret
              exact ⟨rfl, HG.out⟩
          · have d7 : decide ((7 : Int) ≤ (p : Int)) = true := decide_eq_true (by omega)
            have dlb : ((lb : Int) == 2 + (p : Int) + 1 + (q : Int)) = true := by rw [beq_iff_eq]; omega
            replace hlb := Lib.hid hlb
            rcases key.out with h | h | h | h | h | h
            · have e1 : ((q : Int) == 0) = true := by first | (rw [beq_iff_eq]; omega) | (rw [beq_eq_false_iff_ne]; omega)
              have e2 : ((k : Int) == 0) = true := by first | (rw [beq_iff_eq]; omega) | (rw [beq_eq_false_iff_ne]; omega)
              have e3 : decide ((8 : Int) ≤ (k : Int)) = false := by first | exact decide_eq_true (by omega) | exact decide_eq_false (by omega)
              have e4 : ((k : Int) == 11) = false := by first | (rw [beq_iff_eq]; omega) | (rw [beq_eq_false_iff_ne]; omega)
              have e5 : ((la : Int) == 1) = true := by first | (rw [beq_iff_eq]; omega) | (rw [beq_eq_false_iff_ne]; omega)
              clear h
              go_wp2_with fail
              have W7 := (Below.refl _ w6).alloc (Nat.le_refl _) (.cells #[.int .u8 195] 5)
              refine (same_any [195] [195] A3 (some ⟨w6.heap.size, 0, none⟩) c3 1 _ (HO.out _ W7).1 (Rd.fresh w6 (bv [195]) 5) (by decide) (by decide)).mono ?_
              rintro e w8 ⟨rfl, u, rfl⟩
              have HF := Lib.hid (HO.out _ ((Fr.of_below W7 NoS).drewN u |>.below)).2
              clear W7
              go_wp2_with fail
              refine (awake_any _).mono ?_
              rintro e w9 ⟨rfl, b9⟩
              have HG := Lib.hid (HF.out.trans (b9.mono HF.out.size))
              clear b9
              go_wp2_with fail
              go_ret
              exact ⟨rfl, HG.out⟩
            · have e1 : ((q : Int) == 0) = true := by first | (rw [beq_iff_eq]; omega) | (rw [beq_eq_false_iff_ne]; omega)
              have e2 : ((k : Int) == 0) = false := by first | (rw [beq_iff_eq]; omega) | (rw [beq_eq_false_iff_ne]; omega)
              have e3 : decide ((8 : Int) ≤ (k : Int)) = false := by first | exact decide_eq_true (by omega) | exact decide_eq_false (by omega)
              have e4 : ((k : Int) == 11) = false := by first | (rw [beq_iff_eq]; omega) | (rw [beq_eq_false_iff_ne]; omega)
              have e5 : ((la : Int) == 1) = false := by first | (rw [beq_iff_eq]; omega) | (rw [beq_eq_false_iff_ne]; omega)
              have e6 : ((la : Int) != 2 + (q : Int)) = false := by rw [bne_eq_false_iff_eq]; omega
              clear h
              go_wp2_with fail
              have W7 := (Below.refl _ w6).alloc (Nat.le_refl _) (.cells #[.int .u8 195] 5)
              refine (same_any [195] [195] A3 (some ⟨w6.heap.size, 0, none⟩) c3 1 _ (HO.out _ W7).1 (Rd.fresh w6 (bv [195]) 5) (by decide) (by decide)).mono ?_
              rintro e w8 ⟨rfl, u, rfl⟩
              have HF := Lib.hid (HO.out _ ((Fr.of_below W7 NoS).drewN u |>.below)).2
              clear W7
              go_wp2_with fail
              refine (awake_any _).mono ?_
              rintro e w9 ⟨rfl, b9⟩
              have HG := Lib.hid (HF.out.trans (b9.mono HF.out.size))
              clear b9
              go_wp2_with fail
              go_ret
              exact ⟨rfl, HG.out⟩
            · have e1 : ((q : Int) == 0) = true := by first | (rw [beq_iff_eq]; omega) | (rw [beq_eq_false_iff_ne]; omega)
              have e2 : ((k : Int) == 0) = false := by first | (rw [beq_iff_eq]; omega) | (rw [beq_eq_false_iff_ne]; omega)
              have e3 : decide ((8 : Int) ≤ (k : Int)) = true := by first | exact decide_eq_true (by omega) | exact decide_eq_false (by omega)
              have e4 : ((k : Int) == 11) = false := by first | (rw [beq_iff_eq]; omega) | (rw [beq_eq_false_iff_ne]; omega)
              have e5 : ((la : Int) == 1) = true := by first | (rw [beq_iff_eq]; omega) | (rw [beq_eq_false_iff_ne]; omega)
              clear h
              go_wp2_with fail
              have W7 := (Below.refl _ w6).alloc (Nat.le_refl _) (.cells #[.int .u8 195] 5)
              refine (same_any [195] [195] A3 (some ⟨w6.heap.size, 0, none⟩) c3 1 _ (HO.out _ W7).1 (Rd.fresh w6 (bv [195]) 5) (by decide) (by decide)).mono ?_
              rintro e w8 ⟨rfl, u, rfl⟩
              have HF := Lib.hid (HO.out _ ((Fr.of_below W7 NoS).drewN u |>.below)).2
              clear W7
              go_wp2_with fail
              refine (awake_any _).mono ?_
              rintro e w9 ⟨rfl, b9⟩
              have HG := Lib.hid (HF.out.trans (b9.mono HF.out.size))
              clear b9
              go_wp2_with fail
              go_ret
              exact ⟨rfl, HG.out⟩
            · have e1 : ((q : Int) == 0) = true := by first | (rw [beq_iff_eq]; omega) | (rw [beq_eq_false_iff_ne]; omega)
              have e2 : ((k : Int) == 0) = false := by first | (rw [beq_iff_eq]; omega) | (rw [beq_eq_false_iff_ne]; omega)
              have e3 : decide ((8 : Int) ≤ (k : Int)) = true := by first | exact decide_eq_true (by omega) | exact decide_eq_false (by omega)
              have e4 : ((k : Int) == 11) = true := by first | (rw [beq_iff_eq]; omega) | (rw [beq_eq_false_iff_ne]; omega)
              have e5 : ((la : Int) == 1) = true := by first | (rw [beq_iff_eq]; omega) | (rw [beq_eq_false_iff_ne]; omega)
              clear h
              go_wp2_with fail
              have W7 := (Below.refl _ w6).alloc (Nat.le_refl _) (.cells #[.int .u8 195] 5)
              refine (same_any [195] [195] A3 (some ⟨w6.heap.size, 0, none⟩) c3 1 _ (HO.out _ W7).1 (Rd.fresh w6 (bv [195]) 5) (by decide) (by decide)).mono ?_
              rintro e w8 ⟨rfl, u, rfl⟩
              have HF := Lib.hid (HO.out _ ((Fr.of_below W7 NoS).drewN u |>.below)).2
              clear W7
              go_wp2_with fail
              refine (awake_any _).mono ?_
              rintro e w9 ⟨rfl, b9⟩
              have HG := Lib.hid (HF.out.trans (b9.mono HF.out.size))
              clear b9
              go_wp2_with fail
              go_ret
              exact ⟨rfl, HG.out⟩
            · have e1 : ((q : Int) == 0) = false := by first | (rw [beq_iff_eq]; omega) | (rw [beq_eq_false_iff_ne]; omega)
              have e4 : ((k : Int) == 11) = false := by first | (rw [beq_iff_eq]; omega) | (rw [beq_eq_false_iff_ne]; omega)
              have e5 : ((la : Int) == 1) = false := by first | (rw [beq_iff_eq]; omega) | (rw [beq_eq_false_iff_ne]; omega)
              have e6 : ((la : Int) != 2 + (q : Int)) = false := by rw [bne_eq_false_iff_eq]; omega
              clear h
              go_wp2_with fail
              have W7 := (Below.refl _ w6).alloc (Nat.le_refl _) (.cells #[.int .u8 195] 5)
              refine (same_any [195] [195] A3 (some ⟨w6.heap.size, 0, none⟩) c3 1 _ (HO.out _ W7).1 (Rd.fresh w6 (bv [195]) 5) (by decide) (by decide)).mono ?_
              rintro e w8 ⟨rfl, u, rfl⟩
              have HF := Lib.hid (HO.out _ ((Fr.of_below W7 NoS).drewN u |>.below)).2
              clear W7
              go_wp2_with fail
              refine (awake_any _).mono ?_
              rintro e w9 ⟨rfl, b9⟩
              have HG := Lib.hid (HF.out.trans (b9.mono HF.out.size))
              clear b9
              go_wp2_with fail
              go_ret
              exact ⟨rfl, HG.out⟩
            · have e1 : ((q : Int) == 0) = false := by first | (rw [beq_iff_eq]; omega) | (rw [beq_eq_false_iff_ne]; omega)
              have e4 : ((k : Int) == 11) = true := by first | (rw [beq_iff_eq]; omega) | (rw [beq_eq_false_iff_ne]; omega)
              have e5 : ((la : Int) == 1) = false := by first | (rw [beq_iff_eq]; omega) | (rw [beq_eq_false_iff_ne]; omega)
              have e6 : ((la : Int) != 3 + (q : Int)) = false := by rw [bne_eq_false_iff_eq]; omega
              clear h
              go_wp2_with fail
              have W7 := (Below.refl _ w6).alloc (Nat.le_refl _) (.cells #[.int .u8 195] 5)
              refine (same_any [195] [195] A3 (some ⟨w6.heap.size, 0, none⟩) c3 1 _ (HO.out _ W7).1 (Rd.fresh w6 (bv [195]) 5) (by decide) (by decide)).mono ?_
              rintro e w8 ⟨rfl, u, rfl⟩
              have HF := Lib.hid (HO.out _ ((Fr.of_below W7 NoS).drewN u |>.below)).2
              clear W7
              go_wp2_with fail
              refine (awake_any _).mono ?_
              rintro e w9 ⟨rfl, b9⟩
              have HG := Lib.hid (HF.out.trans (b9.mono HF.out.size))
              clear b9
              go_wp2_with fail
              go_ret
              exact ⟨rfl, HG.out⟩
end Go.Proofs.Ytjkimabcpamdcaa
