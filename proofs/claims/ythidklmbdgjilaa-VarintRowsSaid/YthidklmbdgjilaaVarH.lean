/- awake returns true in whatever memory; nothing old turns. -/
import Derived.Test.YthidklmbdgjilaaVarG
import Derived.Test.YthidklmbdgjilaaSame
namespace Go.Proofs.Ythidklmbdgjilaa
open Go.RowKit

theorem vget_a : vget [64, 64] = (64, 2, 0) := by decide
theorem vget_b : vget [64] = (0, 0, 3) := by decide
theorem vl_64 : vl 64 = 2 := by decide
theorem vb_64 : [1] ++ vbytes 64 2 = [1, 64, 64] := by decide +kernel

set_option maxHeartbeats 400000 in
theorem awake_any (w : World) : Calls Try.prog 8 #[] w fun e w' => e = .returned (.bool true) ∧ Below w.heap.size w w' := by
  go_enter Try.func8, Try.ntmps8
  go_wp2_with fail
  refine (get_any [64, 64] _ 2 _ ?_ (by decide) (by decide) (by omega)).mono ?_
  · exact Rd.freshAt rfl _ _ rfl
  rintro e w' ⟨rfl, rfl⟩
  rw [vget_a]
  simp only [vtup]
  go_wp2_with fail
  refine (get_any [64] _ 1 _ ?_ (by decide) (by decide) (by omega)).mono ?_
  · exact Rd.freshAt (by simp) _ _ rfl
  rintro e w' ⟨rfl, rfl⟩
  rw [vget_b]
  simp only [vtup]
  go_wp2_with fail
  refine (put_any 64 [1] _ 1 _ ?_ (by decide) (by omega) (by omega)).mono ?_
  · exact Rd.freshAt (by simp) _ _ rfl
  rintro e w1 ⟨A1, c1, rfl, hown, hbel⟩
  rw [vl_64, vb_64] at hown
  rw [vl_64]
  simp only [List.length_cons, List.length_nil, Nat.reduceAdd] at hown ⊢
  have hz := hbel.size
  simp only [World.size_alloc] at hz
  go_wp2_with fail
  refine (same_any [1, 64, 64] [1, 64, 64] _ _ _ _ _ ?_ ?_ (by decide) (by decide)).mono ?_
  · exact (Rd.of_own hown).alloc _
  · exact Rd.freshAt rfl _ _ rfl
  rintro e w2 ⟨rfl, k, rfl⟩
  simp only [decide_true]
  go_wp2_with fail
  refine (vlen_any 4611686018427387904 _ (by omega) (by omega)).mono ?_
  rintro e w3 ⟨rfl, k2, rfl⟩
  rw [vlen0 (by omega)]
  go_wp2_with fail
  go_ret
  exact ⟨rfl, Fr.below ((((((((Fr.refl NoS w).alloc _).alloc _).alloc _).trans (Fr.of_below hbel _)).alloc _)).drewN _)⟩
end Go.Proofs.Ythidklmbdgjilaa
