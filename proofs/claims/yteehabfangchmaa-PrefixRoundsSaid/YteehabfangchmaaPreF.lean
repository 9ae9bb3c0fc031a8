/- PrefixRounds returns true at every input; nothing old turns. -/
import Derived.Test.YteehabfangchmaaPreE
namespace Go.Proofs.Yteehabfangchmaa
open Go.RowKit

theorem toList_toArray (s : ByteArray) : (⟨s.data.toList.toArray⟩ : ByteArray) = s := by simp

set_option maxRecDepth 100000 in
set_option maxHeartbeats 2000000 in
theorem rounds_any (n bits f : Int) (s : ByteArray) (l : List UInt8) (A1 : Option Addr) (c1 : Nat) (w : World) (h0 : 0 ≤ n) (hn : n ≤ 18446744073709551615) (hf0 : 0 ≤ f) (hf1 : f ≤ 255) (h1 : Rd w A1 (bv l)) (hl : l.length ≤ 9223372036854775807) (hsz : s.size ≤ 9223372036854775807) :
    Calls Try.prog 3 #[.int .u64 n, .int .i64 bits, .int .u8 f, .string s, .slice A1 l.length c1] w fun e w' => e = .returned (.bool true) ∧ Below w.heap.size w w' := by
  by_cases hs : 200 < s.size
  · go_enter Try.func3, Try.ntmps3
    go_wp2_with fail
    refine (awake_any _).mono ?_
    rintro e w1 ⟨rfl, hb⟩
    go_wp2
    go_ret
    exact ⟨rfl, hb⟩
  by_cases ht : 20 < l.length
  · go_enter Try.func3, Try.ntmps3
    go_wp2_with fail
    refine (awake_any _).mono ?_
    rintro e w1 ⟨rfl, hb⟩
    go_wp2
    go_ret
    exact ⟨rfl, hb⟩
  obtain ⟨N, hand, hN⟩ := mask62 n h0 hn
  obtain ⟨m, hm, CL⟩ := low_ex bits 8 (by omega) (by omega)
  replace CL := Lib.hid CL
  obtain ⟨b, hbm⟩ : ∃ b : Nat, b = 1 + m := ⟨_, rfl⟩
  have hbi : (1 : Int) + m = b := by omega
  have hb1 : 1 ≤ b := by omega
  have hb8 : b ≤ 8 := by omega
  clear hbm
  have C1 := Lib.hid (fun W => pput_any [] f b N none 0 W (Rd.nil _ _) (by decide) hf0 hf1 hb1 hb8 hN.1 hN.2)
  have HP := Lib.hid (pget_pput f b N l hf0 hf1 hb1 hb8 hN.1 hN.2)
  obtain ⟨x, r, hxr, hxd⟩ := pput_head f b N hf0 hf1 hb1 hb8 hN.1
  have hpl := pput_len f b N
  simp only [List.nil_append] at C1
  rw [hxr] at C1 HP hpl
  clear hxr
  have hrl : r.length + 1 ≤ 11 := by simpa using hpl
  clear hpl
  have hx := UInt8.toNat_lt x
  have hsh : ((x.toNat : Int) / 2 ^ b != f / 2 ^ b) = false := by rw [hxd]; simp
  have hrz : ((r.length : Int) + 1 == 0) = false := by rw [beq_eq_false_iff_ne]; omega
  clear hxd
  replace hsh := Lib.hid hsh
  replace hrz := Lib.hid hrz
  go_enter Try.func3, Try.ntmps3
  go_wp2_with fail
  refine (CL.out _).mono ?_
  rintro e w' ⟨rfl, rfl⟩
  go_wp2_with fail
  clear hand CL
  refine (C1.out _).mono ?_
  rintro e w1 ⟨A2, c2, rfl, ho1, hb1'⟩
  simp only [List.length_cons] at ho1 ⊢
  have R1 := Rd.of_own ho1
  obtain ⟨bl, off, rfl, hcell⟩ := R1 (by simp)
  have hc0 := hcell 0 _ (bv_get (k := 0) (by simp))
  simp only [List.getElem_cons_zero, Nat.add_zero] at hc0
  have F1 : Fr NoS w w1 := Fr.of_below hb1' _
  clear hb1' hcell
  go_wp2_with fail
  refine (copied_any (x :: r) _ c2 _ R1 (by simp; omega)).mono ?_
  rintro e w3 ⟨A3, c3, rfl, ho3, hb3⟩
  have F3 : Fr NoS w1 w3 := Fr.of_below hb3 _
  have R3 := h1.fr (F1.trans F3) (fun _ _ _ x => x)
  have hsz3 := F3.size
  have hc3 := (F3.cell (p := ⟨bl, off, none⟩) (World.block_lt_of_cell? _ _ hc0) (fun x => x)).trans hc0
  go_wp2_with (at_builtin; refine Hid.out ?_)
  refine Lib.hid ?_
  refine wpList_app _ rfl _ _ 23 (by rfl) w1.heap.size 5 (.int .u8 0) 1 infoB Try.underlying23 rfl (.slice A3 (x :: r).length c3) (x :: r).length (bv (x :: r)) (by rfl) ho3 A1 l.length c1 (bv l) (by rfl) (by simp) R3 (bv_one l) (by unfold maxLen; simp; omega) (by simp; omega) hsz3 ?_
  intro A4 c4 w4 ho4 hg4 _
  have F4 : Fr NoS w1 w4 := F3.grown hg4 (fun j hj hlt => by have := (ho3.lt j hj).1; omega)
  have hc4 := (F4.cell (p := ⟨bl, off, none⟩) (World.block_lt_of_cell? _ _ hc0) (fun x => x)).trans hc0
  rw [← bv_append, ← List.length_append] at ho4
  rw [← List.length_append]
  clear hc3 hc0 hg4 ho3 R3 hb3 F3 hsz3
  have R4 := Rd.of_own ho4
  obtain ⟨full, hfe⟩ : ∃ q, (x :: r) ++ l = q := ⟨_, rfl⟩
  have hfl : full.length ≤ 40 := by rw [← hfe]; simp; omega
  rw [hfe] at HP ho4 R4 ⊢
  simp only [List.length_cons] at HP
  clear hfe
  go_wp2_with fail
  refine (pget_any full b A4 c4 _ hb1 hb8 R4 (by omega)).mono ?_
  rintro e w5 ⟨rfl, rfl⟩
  rw [HP.out]
  simp only [ptup]
  replace hsh := hsh.out
  replace hrz := hrz.out
  go_wp2_with fail
  go_quiet (fail)
  clear hsh hrz HP R1 ho1
  have F4' := (F1.trans F4).drewN nq
  have hsz4 := F4'.size
  by_cases hb : b = 8
  · have hbt : ((b : Int) == 8) = true := by rw [beq_iff_eq]; omega
    go_wp2_with fail
    refine (awake_any _).mono ?_
    rintro e w6 ⟨rfl, hb6⟩
    go_wp2_with fail
    go_ret
    exact ⟨rfl, Fr.below (F4'.trans (Fr.of_below hb6 _))⟩
  · have hbt : ((b : Int) == 8) = false := by rw [beq_eq_false_iff_ne]; omega
    have hst : s.data.toList.length ≤ 2000 := by rw [data_length]; omega
    have HT := Lib.hid (pgettext_ptext f b s.data.toList l hf0 hf1 hb1 (by omega) hst)
    have C2 := Lib.hid (fun W => ptext_any [] f b s none 0 W (Rd.nil _ _) (by decide) hf0 hf1 hb1 (by omega) (by omega))
    have hpl : (ptext f b s.data.toList).length ≤ 211 := by
      have := pput_len (pclr f b) b s.data.toList.length
      have e := data_length s
      unfold ptext; rw [List.length_append]; omega
    simp only [List.nil_append] at C2
    obtain ⟨p, hpe⟩ : ∃ p, ptext f b s.data.toList = p := ⟨_, rfl⟩
    rw [hpe] at HT C2 hpl
    clear hpe hst
    have hb7 : b ≤ 7 := by omega
    clear hb hb8
    have R5 := h1.fr F4' (fun _ _ _ x => x)
    go_wp2_with fail
    refine (C2.out _).mono ?_
    rintro e w6 ⟨A6, c6, rfl, ho6, hb6⟩
    have F6 := F4'.trans (Fr.of_below hb6 NoS)
    have R6 := R5.below hb6
    go_wp2_with fail
    refine (copied_any p A6 c6 _ (Rd.of_own ho6) (by omega)).mono ?_
    rintro e w7 ⟨A7, c7, rfl, ho7, hb7'⟩
    have F7 := F6.trans (Fr.of_below hb7' NoS)
    have R7 := R6.below hb7'
    go_wp2_with (at_builtin; refine Hid.out ?_)
    refine Lib.hid ?_
    refine wpList_app _ rfl _ _ 23 (by rfl) w6.heap.size 5 (.int .u8 0) 1 infoB Try.underlying23 rfl (.slice A7 p.length c7) p.length (bv p) (by rfl) ho7 A1 l.length c1 (bv l) (by rfl) (by simp) R7 (bv_one l) (by unfold maxLen; omega) (by omega) hb7'.size ?_
    intro A8 c8 w8 ho8 hg8 _
    have F8 := F7.grown hg8 (fun j hj hlt => by have := (ho7.lt j hj).1; have := F6.size; omega)
    rw [← bv_append, ← List.length_append] at ho8
    rw [← List.length_append]
    have hc8 := RetS.cap ho8
    have R8 := Rd.of_own ho8
    have hfl8 : (p ++ l).length ≤ 300 := by rw [List.length_append]; omega
    obtain ⟨q, hqe⟩ : ∃ q, p ++ l = q := ⟨_, rfl⟩
    rw [hqe] at HT ho8 R8 hc8 hfl8 ⊢
    clear hqe hg8 ho7 ho6
    go_wp2_with fail
    refine (gettext_any q b A8 c8 _ hb1 hb7 R8 (by omega) hc8.1 hc8.2).mono ?_
    rintro e w9 ⟨rfl, rfl⟩
    unfold tpgettext
    rw [HT.out]
    simp only [toList_toArray]
    go_wp2_with fail
    refine (awake_any _).mono ?_
    rintro e w10 ⟨rfl, hb10⟩
    go_wp2_with fail
    go_ret
    exact ⟨rfl, Fr.below (F8.trans (Fr.of_below hb10 _))⟩
end Go.Proofs.Yteehabfangchmaa
