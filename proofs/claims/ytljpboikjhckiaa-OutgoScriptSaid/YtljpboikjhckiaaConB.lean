/- slices.Contains of a byte in a list of bytes: what it returns. -/
import Derived.Test.YtljpboikjhckiaaIdxB
namespace Go.Proofs.Ytljpboikjhckiaa
open Go.RowKit
theorem ahead_mem (l : List UInt8) (x : UInt8) : x ∈ l ↔ ahead l x < l.length := by
  constructor
  · intro h
    rcases Nat.lt_or_ge (ahead l x) l.length with h1 | h1
    · exact h1
    · obtain ⟨j, hj, e⟩ := List.mem_iff_getElem.1 h
      obtain ⟨y, hy, hne⟩ := ahead_ne l x j (by omega)
      rw [List.getElem?_eq_getElem hj, e] at hy
      injection hy with hy
      exact absurd hy.symm hne
  · intro h
    have := ahead_eq l x h
    exact List.mem_of_getElem? this
theorem contb_any (l : List UInt8) (x : UInt8) (A : Option Addr) (c : Nat) (w : World) (hr : Rd w A (bv l)) (hl : l.length ≤ 140737488355328) :
    Calls Try.prog 34 #[.slice A l.length c, .int .u8 x.toNat] w fun e w' => e = .returned (.bool (decide (x ∈ l))) ∧ w = w' := by
  have CI := Lib.hid (indexb_any l x A c w hr hl)
  by_cases h : ahead l x < l.length
  · rw [decide_eq_true ((ahead_mem l x).2 h)]
    rw [fidb, if_pos h] at CI
    replace h := Lib.hid h
    go_enter Try.func34, Try.ntmps34
    go_wp2_with fail
    refine CI.out.mono ?_
    rintro e w' ⟨rfl, rfl⟩
    go_wp2_with fail
    go_ret
    exact ⟨rfl, rfl⟩
  · rw [decide_eq_false (fun hm => h ((ahead_mem l x).1 hm))]
    rw [fidb, if_neg h] at CI
    replace h := Lib.hid h
    go_enter Try.func34, Try.ntmps34
    go_wp2_with fail
    refine CI.out.mono ?_
    rintro e w' ⟨rfl, rfl⟩
    go_wp2_with fail
    go_ret
    exact ⟨rfl, rfl⟩
end Go.Proofs.Ytljpboikjhckiaa
