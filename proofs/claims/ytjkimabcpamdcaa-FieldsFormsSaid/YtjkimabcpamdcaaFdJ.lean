/- FieldsForms: plain law: how long lines are. -/
import Derived.Test.YtjkimabcpamdcaaFdI
namespace Go.Proofs.Ytjkimabcpamdcaa
open Go.RowKit

def rep (c : UInt8) (k : Nat) : ByteArray := ⟨(List.replicate k c).toArray⟩
theorem rep_size (c : UInt8) (k : Nat) : (rep c k).size = k := by unfold rep; simp [ByteArray.size]
theorem rep_succ (c : UInt8) (k : Nat) : rep c k ++ ⟨#[c]⟩ = rep c (k + 1) := by
  unfold rep
  apply ByteArray.ext
  rw [ByteArray.data_append]
  show (List.replicate k c).toArray ++ [c].toArray = _
  rw [List.replicate_succ', List.append_toArray]
def hd12 : List ByteArray := [⟨#[58, 97, 117, 116, 104, 111, 114, 105, 116, 121]⟩, ⟨#[58, 112, 97, 116, 104]⟩, ⟨#[58, 109, 101, 116, 104, 111, 100]⟩, ⟨#[58, 115, 99, 104, 101, 109, 101]⟩, ⟨#[58, 115, 116, 97, 116, 117, 115]⟩, ⟨#[97, 99, 99, 101, 112, 116]⟩, ⟨#[99, 111, 110, 116, 101, 110, 116, 45, 108, 101, 110, 103, 116, 104]⟩, ⟨#[99, 111, 110, 116, 101, 110, 116, 45, 116, 121, 112, 101]⟩, ⟨#[99, 111, 111, 107, 105, 101]⟩, ⟨#[100, 97, 116, 101]⟩, ⟨#[101, 116, 97, 103]⟩, ⟨#[117, 115, 101, 114, 45, 97, 103, 101, 110, 116]⟩]
def hd12k (k : Nat) : ByteArray := hd12.getD k .empty
theorem forms0 : ∀ k, k < 12 → (fline ⟨hd12k k, rep 113 0⟩).length = if k = 0 ∨ 8 ≤ k then 1 else 2 := by decide +kernel
theorem forms1 : ∀ k, k < 12 → (fhead (hd12k k)).length = if k = 11 then 2 else 1 := by decide +kernel
theorem forms2 : ∀ m, m < 100 → fixed.all (fun x => !decide (x.value = rep 113 (m + 1))) = true := by decide +kernel
theorem forms3 : ∀ m, m < 101 → (ptext 0 7 (rep 113 m).data.toList).length = 1 + m := by decide +kernel
theorem forms4 : ∀ m, m < 50 → fixed.all (fun x => !decide (x.name = rep 122 (m + 1))) = true := by decide +kernel
theorem forms5 : ∀ m, m < 50 → (ptext 32 3 (rep 122 (m + 1)).data.toList).length = (if 7 ≤ m + 1 then 2 else 1) + (m + 1) := by decide +kernel
theorem forms6 : fline ⟨mth, ⟨#[80, 79, 83, 84]⟩⟩ = [195] := by decide +kernel
theorem hd12_size (k : Nat) (h : k < 12) : (hd12k k).size ≤ 1000000 := by
  have : ∀ k, k < 12 → (hd12k k).size ≤ 14 := by decide +kernel
  have := this k h; omega
theorem fi_none {q : Fd → Bool} {l : List Fd} (h : l.all (fun x => !q x) = true) : l.findIdx? q = none := by
  rw [List.findIdx?_eq_none_iff]
  intro x hx
  have := List.all_eq_true.1 h x hx
  simpa using this
theorem forms_a (k m : Nat) (hk : k < 12) (hm : m < 101) (h1 : 1 ≤ m) : (fline ⟨hd12k k, rep 113 m⟩).length = (if k = 11 then 2 else 1) + 1 + m := by
  have h2 := forms2 (m - 1) (by omega)
  rw [show m - 1 + 1 = m by omega] at h2
  have h3 := forms3 m hm
  unfold fline
  rw [fi_none]
  · show (fhead (hd12k k) ++ ptext 0 7 (rep 113 m).data.toList).length = _
    rw [List.length_append, forms1 k hk, h3]; omega
  · rw [List.all_eq_true] at h2 ⊢
    intro x hx
    have h4 := h2 x hx
    simp only [Bool.not_eq_true', decide_eq_false_iff_not] at h4 ⊢
    intro e; rw [e] at h4; exact h4 rfl
theorem forms_b (j m : Nat) (hj : j < 50) (hm : m < 101) : (fline ⟨rep 122 (j + 1), rep 113 m⟩).length = (if 7 ≤ j + 1 then 2 else 1) + (j + 1) + (1 + m) := by
  have h2 := forms4 j hj
  have h3 := forms3 m hm
  have h5 := forms5 j hj
  unfold fline fhead
  rw [fi_none, fi_none h2]
  · show (ptext 32 3 (rep 122 (j + 1)).data.toList ++ ptext 0 7 (rep 113 m).data.toList).length = _
    rw [List.length_append, h5, h3]
  · rw [List.all_eq_true] at h2 ⊢
    intro x hx
    have h4 := h2 x hx
    simp only [Bool.not_eq_true', decide_eq_false_iff_not] at h4 ⊢
    intro e; rw [e] at h4; exact h4 rfl
end Go.Proofs.Ytjkimabcpamdcaa
