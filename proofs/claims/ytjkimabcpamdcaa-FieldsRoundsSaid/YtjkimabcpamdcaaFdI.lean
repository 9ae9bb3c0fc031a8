/- fields: awake. -/
import Derived.Test.YtjkimabcpamdcaaFdH
import Derived.Test.YtjkimabcpamdcaaSame
namespace Go.Proofs.Ytjkimabcpamdcaa
open Go.RowKit

def mth : ByteArray := ⟨#[58, 109, 101, 116, 104, 111, 100]⟩
def tget : ByteArray := ⟨#[71, 69, 84]⟩
theorem aw_put : fput [⟨mth, tget⟩] = ([0, 0, 194], 0) := by decide +kernel
theorem aw_get : fget [0, 0, 194] = ([⟨mth, tget⟩], 0) := by decide +kernel
theorem aw_no : fput [⟨⟨#[65]⟩, .empty⟩] = ([], 5) := by decide +kernel
theorem aw_n1 : nameok ⟨#[97, 45, 49]⟩ = true := by decide +kernel
theorem aw_n0 : nameok ⟨#[]⟩ = false := by decide +kernel

set_option maxRecDepth 100000 in
set_option maxHeartbeats 4000000 in
theorem awake_any (w : World) :
    Calls Try.prog 7 #[] w fun e w' => e = .returned (.bool true) ∧ Below w.heap.size w w' := by
  have NA := Lib.hid (fun W => name_any ⟨#[97, 45, 49]⟩ W (by decide))
  have N0 := Lib.hid (fun W => name_any ⟨#[]⟩ W (by decide))
  rw [aw_n1] at NA
  rw [aw_n0] at N0
  go_enter Try.func7, Try.ntmps7
  go_wp2_with fail
  refine (fput_any [⟨mth, tget⟩] (some ⟨w.heap.size, 0, none⟩) 1 1 _ rfl (Rd.fresh w (fdv [⟨mth, tget⟩]) 24) (by omega) (by simp only [List.mem_singleton]; rintro f rfl; decide)).mono ?_
  rw [aw_put]
  rintro e w1 ⟨A1, c1, rfl, o1, b1⟩
  simp only [List.length_cons, List.length_nil] at o1 ⊢
  have hb := Lib.hid (((Below.refl _ w).alloc (Nat.le_refl _) _).trans (b1.mono ((Below.refl _ w).alloc (Nat.le_refl _) _).size))
  have hc := RetS.cap o1
  have r1 := Rd.of_own o1
  clear b1 o1
  go_wp2_with fail
  refine (fget_any [0, 0, 194] A1 c1 3 w1 rfl r1 hc.1 hc.2 (by omega)).mono ?_
  rw [aw_get]
  rintro e w2 ⟨A2, c2, rfl, o2, b2⟩
  simp only [List.length_cons, List.length_nil] at o2 ⊢
  replace hb := Lib.hid (hb.out.trans (b2.mono hb.out.size))
  replace r1 := r1.below b2
  have r2 := Rd.of_ownS o2
  clear b2 o2
  replace r1 := Lib.hid r1
  replace r2 := Lib.hid r2
  go_wp2_with fail
  refine (fput_any [⟨⟨#[65]⟩, .empty⟩] (some ⟨w2.heap.size, 0, none⟩) 1 1 _ rfl (Rd.fresh w2 (fdv [⟨⟨#[65]⟩, .empty⟩]) 24) (by omega) (by simp only [List.mem_singleton]; rintro f rfl; decide)).mono ?_
  rw [aw_no]
  rintro e w3 ⟨A3, c3, rfl, o3, b3⟩
  simp only [List.length_nil] at o3 ⊢
  have ba := (Below.refl _ w2).alloc (Nat.le_refl _) (.cells #[.string ⟨#[65]⟩, .string .empty] 24)
  replace b3 := ba.trans (b3.mono ba.size)
  replace hb := Lib.hid (hb.out.trans (b3.mono hb.out.size))
  replace r1 := Lib.hid (r1.out.below b3)
  replace r2 := Lib.hid (r2.out.below b3)
  clear b3 o3 ba
  have W4 := (Below.refl _ w3).alloc (Nat.le_refl _) (.cells #[.int .u8 0, .int .u8 0, .int .u8 194] 5)
  obtain ⟨b, off, rfl, x0, x1⟩ := load_fd (k := 0) (r2.out.below W4) (by simp)
  simp only [Nat.zero_mul, Nat.add_zero, List.getElem_cons_zero, tget] at x0 x1
  have hq : (ByteArray.mk #[71, 69, 84]).toList = [71, 69, 84] := by decide +kernel
  clear r2
  go_wp2_with fail
  refine (same_any [0, 0, 194] [0, 0, 194] A1 (some ⟨w3.heap.size, 0, none⟩) c1 3 _ (r1.out.below W4) (Rd.fresh w3 (bv [0, 0, 194]) 5) (by decide) (by decide)).mono ?_
  rintro e w4 ⟨rfl, k, rfl⟩
  replace hb := Lib.hid ((hb.out.trans (W4.mono hb.out.size)))
  clear W4 r1
  go_wp2_with fail
  refine (NA.out _).mono ?_
  rintro e w5 ⟨rfl, rfl⟩
  go_wp2_with fail
  refine (N0.out _).mono ?_
  rintro e w5 ⟨rfl, rfl⟩
  go_wp2_with fail
  go_ret
  exact ⟨rfl, (Fr.of_below hb.out NoS).drewN k |>.below⟩
end Go.Proofs.Ytjkimabcpamdcaa
