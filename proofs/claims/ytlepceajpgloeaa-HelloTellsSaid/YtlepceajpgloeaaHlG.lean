/- hello: awake. -/
import Derived.Test.YtlepceajpgloeaaHlF
namespace Go.Proofs.Ytlepceajpgloeaa
open Go.RowKit

def r7 : List UInt8 := 7 :: List.replicate 31 0
theorem build7 (w : World) : (Instr.build 22 #[(0, .int .u8 7)]).run Try.prog w = .ok (.agg (bv r7).toArray) w := by kernel_rfl
theorem hz34_eq : hz34.toArray = hcl false (List.replicate 32 0) none 0 0 := rfl
theorem aw1 : hkind (hpiece 20 r7) = (20, 36, 0) := by decide +kernel
theorem aw2 : hfinr (hpiece 20 r7) = (r7, 36, 0) := by decide +kernel
theorem aw3 : hget (hpiece 20 r7) = (hzero, 0, 6) := rfl
theorem aw4 : hput false (List.replicate 32 0) [] = ([], 2) := rfl

set_option maxRecDepth 100000 in
set_option maxHeartbeats 4000000 in
theorem awake_any (w : World) : Calls Try.prog 8 #[] w fun e w' => e = .returned (.bool true) ∧ Below w.heap.size w w' := by
  have H7 := fun w => build7 w
  have HB := fun w => build27 w
  go_enter Try.func8, Try.ntmps8
  go_wp2_with fail
  clear H7
  refine (putfin_any r7 _ rfl).mono ?_
  rintro e w1 ⟨A1, c1, rfl, o1, b1⟩
  have B1 := Lib.hid b1
  have R1 := Lib.hid (Rd.of_own o1)
  have hc1 := RetS.cap o1
  clear o1 b1
  go_wp2_with fail
  have K1 := hkind_any (hpiece 20 r7) A1 c1 36 w1 rfl R1.out (by omega)
  rw [aw1] at K1
  refine K1.mono ?_
  rintro e w2 ⟨rfl, ST⟩
  simp only [t3]
  have B2 := Lib.hid (B1.out.trans (ST.below.mono B1.out.size))
  have R2 := Lib.hid (ST.rd R1.out)
  clear K1 ST B1 R1
  go_wp2_with fail
  have K2 := hfin_any (hpiece 20 r7) A1 c1 36 w2 rfl R2.out (by omega) hc1.1 hc1.2
  rw [aw2] at K2
  refine K2.mono ?_
  rintro e w3 ⟨rfl, _, b3⟩
  simp only
  have B3 := Lib.hid (B2.out.trans (b3.mono B2.out.size))
  have R3 := Lib.hid (R2.out.below b3)
  clear K2 b3 B2 R2
  go_wp2_with (refine wpList_store_block rfl 22 (.tmp 5) (.tmp 24) rfl w3.heap.size 0 (bv r7) rfl rfl _ _ (heap_alloc_new _ _) (by rw [bv_length]; decide) hinfo22 (bv_one _) ?_; intro w4 h4 F4; obtain ⟨k4, b4⟩ := alloc_store h4 F4 (by rw [bv_length]; decide); have B4 := Lib.hid (B3.out.trans (b4.mono B3.out.size)); have R4 := Lib.hid (R3.out.below b4); clear h4 F4 b4 B3 R3; replace k4 := Lib.hid k4)
  obtain ⟨g4, hg4⟩ : ∃ g4, w3.heap.size = g4 := ⟨_, rfl⟩
  rw [hg4] at k4 ⊢
  clear hg4
  have K3 := hget_any (hpiece 20 r7) A1 c1 36 w4 rfl R4.out (by omega) hc1.1 hc1.2
  rw [aw3] at K3
  refine K3.mono ?_
  rintro e w5 ⟨A5, n5, c5, rfl, hr5, _, b5⟩
  obtain ⟨LS, hLS⟩ : ∃ LS, (Value.bool hzero.s :: (bv hzero.r ++ [.slice A5 n5 c5])) = LS := ⟨_, rfl⟩
  have hLl : LS.length = 34 := by rw [← hLS]; exact hcl_len _ _ _ _ _ hr5
  have hL1 : ∀ u ∈ LS, u.oneCell' = true := by rw [← hLS]; exact hcl_one _ _ _ _ _
  simp only [hcl_list, hLS]
  have B5 := Lib.hid (B4.out.trans (b5.mono B4.out.size))
  have k5 := Lib.hid (heap_fr k4.out (Fr.of_below b5 NoS) (fun x => x))
  replace hLS := Lib.hid hLS
  replace hLl := Lib.hid hLl
  replace hL1 := Lib.hid hL1
  clear K3 b5 hr5 k4 B4 R4
  go_wp2_with (refine wpList_store_block rfl 27 (.tmp 8) (.tmp 30) rfl w5.heap.size 0 LS rfl rfl _ _ (heap_alloc_new _ _) (by rw [hLl.out]; decide) (by rw [hLl.out]; exact hinfo27) hL1.out ?_; intro w6 h6 F6; obtain ⟨_, b6⟩ := alloc_store h6 F6 (by rw [hLl.out]; decide); have B6 := Lib.hid (B5.out.trans (b6.mono B5.out.size)); have k6 := Lib.hid (heap_fr k5.out (Fr.of_below b6 NoS) (fun x => x)); clear h6 F6 b6 B5 k5)
  have K4 := hput_any false (List.replicate 32 0) [] none 0 0 w6 rfl rfl ⟨[], Rd.nil _ _, rfl, fun k id h => by simp at h⟩ (by omega)
  rw [aw4, ← hz34_eq] at K4
  refine K4.mono ?_
  rintro e w7 ⟨A7, c7, rfl, _, b7⟩
  simp only
  have B7 := Lib.hid (B6.out.trans (b7.mono B6.out.size))
  have k7 := heap_fr k6.out (Fr.of_below b7 NoS) (fun x => x)
  have x7 := wrote_cell k7 0 (.int .u8 7) rfl
  clear K4 b7 B6 k6 k7
  go_wp2_with fail
  go_ret
  exact ⟨rfl, B7.out⟩
end Go.Proofs.Ytlepceajpgloeaa
