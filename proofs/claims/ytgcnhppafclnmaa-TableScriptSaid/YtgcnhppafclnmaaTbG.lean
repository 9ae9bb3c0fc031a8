/- table: awake. -/
import Derived.Test.YtgcnhppafclnmaaTbF
namespace Go.Proofs.Ytgcnhppafclnmaa
open Go.RowKit

def aw1 : Tb := (tnew 70).ins ⟨⟨#[97]⟩, ⟨#[98]⟩⟩
def aw2 : Tb := aw1.ins ⟨⟨#[99]⟩, ⟨#[100]⟩⟩
def aw3 : Tb := aw2.ins ⟨⟨#[101]⟩, ⟨#[102]⟩⟩
theorem aw_a : aw1.most = 70 ∧ aw2.most = 70 ∧ aw1.F.length = 1 ∧ aw2.F.length = 2 ∧ aw3.F.length = 3 ∧ aw3.used = 68 ∧ (aw3.get 0).getD fd0 = ⟨⟨#[]⟩, ⟨#[]⟩⟩ ∧ (aw3.get 0).isSome = false ∧ (aw3.get 2).getD fd0 = ⟨⟨#[101]⟩, ⟨#[102]⟩⟩ ∧ (aw3.get 2).isSome = true := by decide

set_option maxRecDepth 100000 in
set_option maxHeartbeats 4000000 in
theorem awake_any (w : World) :
    Calls Try.prog 7 #[] w fun e w' => e = .returned (.bool true) ∧ Below w.heap.size w w' := by
  have HA := Lib.hid aw_a
  go_enter Try.func7, Try.ntmps7
  go_wp2_with fail
  refine (tnew_at (fun k => k < w.heap.size) w (fun _ h => h) 70 (by omega)).mono ?_
  rintro e w1 ⟨p, rfl, H, hb⟩
  replace H := Lib.hid H
  replace hb := Lib.hid hb
  go_wp2_with fail
  refine (ins_at aw1 H.out ⟨#[97]⟩ ⟨#[98]⟩ 34 rfl (by decide) (by decide) rfl).mono ?_
  rintro e w2 ⟨rfl, H2, F2⟩
  replace hb : Hid (Below w.heap.size w w2) := Lib.hid (fp_below hb.out hb.out.size (fun _ h => h) F2)
  replace H2 := Lib.hid H2
  clear H F2
  go_wp2_with fail
  refine (ins_at aw2 H2.out ⟨#[99]⟩ ⟨#[100]⟩ 34 rfl (by rw [HA.out.1]; decide) (by rw [HA.out.2.2.1]; decide) rfl).mono ?_
  rintro e w3 ⟨rfl, H3, F3⟩
  replace hb : Hid (Below w.heap.size w w3) := Lib.hid (fp_below hb.out hb.out.size (fun _ h => h) F3)
  replace H3 := Lib.hid H3
  clear H2 F3
  go_wp2_with fail
  refine (ins_at aw3 H3.out ⟨#[101]⟩ ⟨#[102]⟩ 34 rfl (by rw [HA.out.2.1]; decide) (by rw [HA.out.2.2.2.1]; decide) rfl).mono ?_
  rintro e w4 ⟨rfl, H4, F4⟩
  replace hb : Hid (Below w.heap.size w w4) := Lib.hid (fp_below hb.out hb.out.size (fun _ h => h) F4)
  replace H4 := Lib.hid H4
  clear H3 F4
  go_wp2_with fail
  refine (get_at ⟨#[]⟩ ⟨#[]⟩ false H4.out 0 (by decide) HA.out.2.2.2.2.2.2.1 HA.out.2.2.2.2.2.2.2.1).mono ?_
  rintro e w5 ⟨rfl, H5, b5⟩
  replace hb : Hid (Below w.heap.size w w5) := Lib.hid (hb.out.trans (b5.mono hb.out.size))
  replace H5 := Lib.hid H5
  clear H4 b5
  go_wp2_with fail
  refine (get_at ⟨#[101]⟩ ⟨#[102]⟩ true (H5.out.alloc tbOk _) 2 (by decide) HA.out.2.2.2.2.2.2.2.2.1 HA.out.2.2.2.2.2.2.2.2.2).mono ?_
  rintro e w6 ⟨rfl, H6, b6⟩
  replace hb : Hid (Below w.heap.size w w6) := Lib.hid ((hb.out.alloc hb.out.size _).trans (b6.mono (hb.out.alloc hb.out.size _).size))
  replace H6 := Lib.hid H6
  clear H5 b6
  go_wp2_with fail
  obtain ⟨W6, hW6⟩ : ∃ W6, w6.alloc (.cells #[.string ⟨#[101]⟩, .string ⟨#[102]⟩] 28) = W6 := ⟨_, rfl⟩
  have hR : HasRow W6 w6.heap.size 28 #[.string ⟨#[101]⟩, .string ⟨#[102]⟩] := by rw [← hW6]; exact HasRow.new w6 _ _
  have H7 := H6.out.alloc tbOk (.cells #[.string ⟨#[101]⟩, .string ⟨#[102]⟩] 28)
  have hb7 := hb.out.alloc hb.out.size (.cells #[.string ⟨#[101]⟩, .string ⟨#[102]⟩] 28)
  rw [hW6] at H7 hb7 ⊢
  obtain ⟨g, hg⟩ : ∃ g, w6.heap.size = g := ⟨_, rfl⟩
  rw [hg] at hR ⊢
  replace H7 := Lib.hid H7
  replace hR := Lib.hid hR
  replace hb := Lib.hid hb7
  clear hW6 hg H6 hb7
  refine (count_at 3 H7.out HA.out.2.2.2.2.1).mono ?_
  rintro e w8 ⟨rfl, H8, b8⟩
  replace hb := Lib.hid (hb.out.trans (b8.mono hb.out.size))
  replace hR := Lib.hid (hR.out.below b8)
  replace H8 := Lib.hid H8
  clear H7 b8
  go_wp2_with fail
  refine (used_at 68 H8.out HA.out.2.2.2.2.2.1).mono ?_
  rintro e w9 ⟨rfl, rfl⟩
  have x0 := hR.out.cell 0 _ rfl
  have x1 := hR.out.cell 1 _ rfl
  go_wp2_with fail
  refine (size_at ⟨#[101]⟩ ⟨#[102]⟩ 34 _ rfl (by decide)).mono ?_
  rintro e w9 ⟨rfl, b9⟩
  replace hb := Lib.hid (hb.out.trans (b9.mono hb.out.size))
  clear x0 x1 b9
  go_wp2_with fail
  refine (fixed_any _).mono ?_
  rintro e w10 ⟨A, rfl, -, b10⟩
  replace hb := Lib.hid (hb.out.trans (b10.mono hb.out.size))
  clear b10
  go_wp2_with fail
  refine (tnew_no (-1) _ (.inl (by omega))).mono ?_
  rintro e w11 ⟨rfl, rfl⟩
  go_wp2_with fail
  go_ret
  exact ⟨rfl, hb.out⟩
end Go.Proofs.Ytgcnhppafclnmaa
