/- Read-back laws of texts, in plain Lean; and awake's walk: it returns true, nothing old turns. -/
import Derived.Test.YteehabfangchmaaPreC
import Derived.Test.YteehabfangchmaaSame
import Derived.Test.YteehabfangchmaaLow
import Derived.Test.YteehabfangchmaaMask
namespace Go.Proofs.Yteehabfangchmaa
open Go.RowKit

theorem pw_a : pget 5 [31, 154, 10] = (1337, 3, 0) := by decide +kernel
theorem pw_b : pgettext 7 [2, 97, 98] = ([97, 98], 3, 0) := by decide +kernel
theorem pw_c : pgettext 7 [128] = ([], 0, 6) := by decide +kernel
theorem pw_d : pput 0 5 1337 = [31, 154, 10] := by decide +kernel
theorem pw_e : ptext 0 7 [120] = [1, 120] := by decide +kernel

set_option maxHeartbeats 2000000 in
theorem awake_any (w : World) : Calls Try.prog 7 #[] w fun e w' => e = .returned (.bool true) ∧ Below w.heap.size w w' := by
  go_enter Try.func7, Try.ntmps7
  go_wp2_with fail
  refine (pget_any [31, 154, 10] 5 _ 3 _ (by omega) (by omega) ?_ (by decide)).mono ?_
  · exact Rd.freshAt rfl _ _ rfl
  rintro e w' ⟨rfl, rfl⟩
  rw [pw_a]
  simp only [ptup]
  go_wp2_with fail
  refine (gettext_any [2, 97, 98] 7 _ 3 _ (by omega) (by omega) ?_ (by decide) (by decide) (by omega)).mono ?_
  · exact Rd.freshAt (by simp) _ _ rfl
  rintro e w' ⟨rfl, rfl⟩
  unfold tpgettext
  rw [pw_b]
  go_wp2_with fail
  refine (gettext_any [128] 7 _ 1 _ (by omega) (by omega) ?_ (by decide) (by decide) (by omega)).mono ?_
  · exact Rd.freshAt (by simp) _ _ rfl
  rintro e w' ⟨rfl, rfl⟩
  unfold tpgettext
  rw [pw_c]
  go_wp2_with fail
  refine (pput_any [] 0 5 1337 none 0 _ (Rd.nil _ _) (by decide) (by omega) (by omega) (by omega) (by omega) (by omega) (by omega)).mono ?_
  rintro e w1 ⟨A1, c1, rfl, hown, hbel⟩
  rw [pw_d] at hown ⊢
  simp only [List.length_cons, List.length_nil, Nat.reduceAdd, List.nil_append] at hown ⊢
  have hz := hbel.size
  simp only [World.size_alloc] at hz
  go_wp2_with fail
  refine (same_any [31, 154, 10] [31, 154, 10] _ _ _ _ _ ?_ ?_ (by decide) (by decide)).mono ?_
  · exact (Rd.of_own hown).alloc _
  · exact Rd.freshAt rfl _ _ rfl
  rintro e w2 ⟨rfl, k, rfl⟩
  simp only [decide_true]
  go_wp2_with fail
  refine (ptext_any [9] 0 7 ⟨#[120]⟩ _ 1 _ ?_ (by decide) (by omega) (by omega) (by omega) (by omega) (by decide)).mono ?_
  · exact Rd.freshAt (by simp [World.drewN]) _ _ rfl
  rintro e w3 ⟨A3, c3, rfl, hown3, hbel3⟩
  rw [show (⟨#[120]⟩ : ByteArray).data.toList = [120] from rfl, pw_e] at hown3 ⊢
  simp only [List.length_cons, List.length_nil, Nat.reduceAdd, List.cons_append, List.nil_append] at hown3 ⊢
  have hz3 := hbel3.size
  simp only [World.size_alloc] at hz3
  go_wp2_with fail
  refine (same_any [9, 1, 120] [9, 1, 120] _ _ _ _ _ ?_ ?_ (by decide) (by decide)).mono ?_
  · exact (Rd.of_own hown3).alloc _
  · exact Rd.freshAt rfl _ _ rfl
  rintro e w4 ⟨rfl, k4, rfl⟩
  simp only [decide_true]
  go_wp2_with fail
  go_ret
  exact ⟨rfl, Fr.below (((((((((Fr.refl NoS w).alloc _).alloc _).alloc _).trans (Fr.of_below hbel _)).alloc _).drewN _).alloc _).trans (Fr.of_below hbel3 _) |>.alloc _ |>.drewN _)⟩
end Go.Proofs.Yteehabfangchmaa
