/- mantillalaw12.awake: it is true; nothing that was there turns. -/
import Derived.Test.YtlaomllgjiochaaIncJ
import Derived.Test.YtlaomllgjiochaaSame
import Derived.Lib.SlBytesConst
namespace Go.Proofs.Ytlaomllgjiochaa
open Go.RowKit

def aw1 : Inc := ⟨10, 3, 0, 3, [none, none, some 99]⟩
def aw2 : Inc := ⟨10, 3, 0, 3, [some 97, some 98, some 99]⟩
def aw3 : Inc := ⟨10, 3, 3, 3, [some 97, some 98, some 99]⟩
theorem aw1_eq : iputs (inew 10) 2 [99] true = aw1 := by rfl
theorem aw1_n : iputr (inew 10) 2 [99] true = 0 := by rfl
theorem aw2_eq : iputs aw1 0 [97, 98] false = aw2 := by rfl
theorem aw2_n : iputr aw1 0 [97, 98] false = 0 := by rfl
theorem aw2_eq2 : iputs aw2 0 [120] false = aw2 := by rfl
theorem aw2_n2 : iputr aw2 0 [120] false = 12 := by rfl
theorem aw3_eq2 : iputs aw3 9 [120, 121] false = aw3 := by rfl
theorem aw3_n2 : iputr aw3 9 [120, 121] false = 11 := by rfl
theorem aw3_rd : iread aw2 9 = aw3 := by rfl
theorem aw3_rn : ireadn aw2 9 = 3 := by rfl
theorem aw3_rb : ibytes aw2 3 = [97, 98, 99] := by rfl

set_option maxRecDepth 100000 in
set_option maxHeartbeats 4000000 in
theorem awake_any (w : World) :
    Calls Try.prog 8 #[] w fun e w' => e = .returned (.bool true) ∧ Below w.heap.size w w' := by
  have kc := fun (w : World) (C : Array Value) (n c : Nat) => Lib.run_convert_bytes_const (P := Try.prog) w 22 5 C n c Try.underlying22 Try.underlying5
  go_enter Try.func8, Try.ntmps8
  go_wp2_with fail
  refine (new_at w.heap.size w w 10 (Below.refl _ _) (Nat.le_refl _) (by decide) (by decide)).mono ?_
  rintro e w1 ⟨rfl, I1, hb1⟩
  obtain ⟨p, hp⟩ : ∃ p, w.heap.size = p := ⟨_, rfl⟩
  rw [hp] at I1 ⊢
  replace hp := Lib.hid hp
  replace hb1 := Lib.hid hb1
  go_wp2_with fail
  refine (put_at aw1 0 1 2 _ [99] true (I1.alloc _) (Rd.fresh_mark _ (bv [99]) _ _) (fun _ a ha => fresh_far I1.nle ha) (by decide) (by decide) aw1_eq aw1_n).mono ?_
  rintro e w2 ⟨rfl, I2, -⟩
  clear I1
  go_wp2_with fail
  refine (readable_at I2).mono ?_
  rintro e w3 ⟨rfl, q⟩
  rw [show irdb aw1 = 0 from rfl]
  replace I2 := I2.stillS q
  clear q
  go_wp2_with fail
  refine (put_at aw2 0 2 0 _ [97, 98] false (I2.alloc _) (Rd.fresh_mark _ (bv [97, 98]) _ _) (fun _ a ha => fresh_far (Nat.le_refl _) ha) (by decide) (by decide) aw2_eq aw2_n).mono ?_
  rintro e w4 ⟨rfl, I4, -⟩
  clear I2
  go_wp2_with fail
  refine (put_at aw2 12 1 0 _ [120] false (I4.alloc _) (Rd.fresh_mark _ (bv [120]) _ _) (fun _ a ha => fresh_far (Nat.le_refl _) ha) (by decide) (by decide) aw2_eq2 aw2_n2).mono ?_
  rintro e w5 ⟨rfl, I5, -⟩
  clear I4
  go_wp2_with fail
  refine (whole_at I5).mono ?_
  rintro e w6 ⟨rfl, q⟩
  rw [show iwhole aw2 = true from rfl]
  replace I5 := I5.stillS q
  clear q
  go_wp2_with fail
  refine (ended_at I5).mono ?_
  rintro e w7 ⟨rfl, q⟩
  rw [show iended aw2 = false from rfl]
  replace I5 := I5.stillS q
  clear q
  go_wp2_with fail
  refine (read_at 9 I5 I5.lt).mono ?_
  rintro e w8 ⟨A8, c8, rfl, ho8, I8, hF8⟩
  simp only [aw3_rn, aw3_rb, aw3_rd] at ho8 I8 ⊢
  have R8 := Rd.of_own ho8
  clear ho8
  replace I8 := I8.more hF8.size
  clear I5 hF8
  go_wp2_with fail
  refine (still_of (same_any [97, 98, 99] [97, 98, 99] A8 _ _ _ _ (R8.alloc _) (Rd.fresh_mark _ (bv [97, 98, 99]) _ _) (by decide) (by decide))).mono ?_
  rintro e w9 ⟨rfl, q⟩
  rw [show decide (([97, 98, 99] : List UInt8) = [97, 98, 99]) = true from rfl]
  replace I8 := (I8.allocS _).stillS q
  clear R8 q
  go_wp2_with fail
  refine (ended_at I8).mono ?_
  rintro e w10 ⟨rfl, q⟩
  rw [show iended aw3 = true from rfl]
  replace I8 := I8.stillS q
  clear q
  go_wp2_with fail
  refine (put_at aw3 11 2 9 _ [120, 121] false (I8.alloc _) (Rd.fresh_mark _ (bv [120, 121]) _ _) (fun _ a ha => fresh_far (Nat.le_refl _) ha) (by decide) (by decide) aw3_eq2 aw3_n2).mono ?_
  rintro e w11 ⟨rfl, I9, -⟩
  clear I8
  go_wp2_with fail
  refine (inew_neg (-1) _ (by decide)).mono ?_
  rintro e w12 ⟨rfl, rfl⟩
  go_wp2_with fail
  go_ret
  exact ⟨rfl, by rw [hp.out]; exact I9.bel⟩
end Go.Proofs.Ytlaomllgjiochaa
