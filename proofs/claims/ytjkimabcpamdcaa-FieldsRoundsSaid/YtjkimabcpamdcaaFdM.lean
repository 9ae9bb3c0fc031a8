/- FieldsCuts, FieldsJoins: plain law. -/
import Derived.Test.YtjkimabcpamdcaaFdL
import Derived.Test.YtjkimabcpamdcaaLow
namespace Go.Proofs.Ytjkimabcpamdcaa
open Go.RowKit

def n4l : List ByteArray := [⟨#[58, 109, 101, 116, 104, 111, 100]⟩, ⟨#[120, 45, 97]⟩, ⟨#[117, 115, 101, 114, 45, 97, 103, 101, 110, 116]⟩, ⟨#[115, 111, 109, 101, 45, 108, 111, 110, 103, 101, 114, 45, 110, 97, 109, 101]⟩]
def v4l : List ByteArray := [⟨#[71, 69, 84]⟩, ⟨#[]⟩, ⟨#[113]⟩, ⟨#[97, 32, 118, 97, 108, 117, 101, 32, 111, 102, 32, 115, 111, 109, 101, 32, 109, 111, 114, 101, 32, 98, 121, 116, 101, 115]⟩]
def n6l : List ByteArray := [⟨#[58, 109, 101, 116, 104, 111, 100]⟩, ⟨#[97, 99, 99, 101, 112, 116]⟩, ⟨#[120, 45, 97]⟩, ⟨#[120, 45, 116, 111, 107, 101, 110, 45, 111, 102, 45, 97, 45, 110, 97, 109, 101]⟩, ⟨#[99, 111, 111, 107, 105, 101]⟩, ⟨#[122]⟩]
def v6l : List ByteArray := [⟨#[]⟩, ⟨#[71, 69, 84]⟩, ⟨#[42, 47, 42]⟩, ⟨#[97, 32, 98, 32, 99]⟩, ⟨#[48]⟩, ⟨#[97, 32, 118, 97, 108, 117, 101, 32, 116, 104, 97, 116, 32, 105, 115, 32, 115, 111, 109, 101, 119, 104, 97, 116, 32, 108, 111, 110, 103, 101, 114, 32, 116, 104, 97, 110, 32, 97, 108, 108, 32, 111, 116, 104, 101, 114, 32, 111, 110, 101, 115, 32, 97, 114, 101, 44, 32, 98, 121, 32, 102, 97, 114]⟩]
def n4 (i : Nat) : ByteArray := n4l.getD i .empty
def v4 (i : Nat) : ByteArray := v4l.getD i .empty
def n6 (i : Nat) : ByteArray := n6l.getD i .empty
def v6 (i : Nat) : ByteArray := v6l.getD i .empty
def cix (g n : Int) : Nat := (low g n).toNat
def cfd (g : Int) : Fd := ⟨n4 (cix g 4), v4 (cix (IntKind.i64.wrap (g.tdiv 4)) 4)⟩
def jfd (g : Int) : Fd := ⟨n6 (cix g 6), v6 (cix (IntKind.i64.wrap (g.tdiv 6)) 6)⟩
theorem cix_bd (g : Int) (n : Nat) (hn : 1 ≤ n) (hm : n ≤ 4611686018427387904) : cix g n < n ∧ ((cix g n : Nat) : Int) = low g n := by
  have := low_bd g n (by omega) (by omega)
  unfold cix; omega
theorem cix_any (x : Int) (n : Nat) (w : World) (hn : 1 ≤ n) (hm : n ≤ 4611686018427387904) :
    Calls Try.prog 12 #[.int .i64 x, .int .i64 n] w fun e w' => e = .returned (.int .i64 (cix x n)) ∧ w = w' := by
  rw [(cix_bd x n hn hm).2]
  exact low_any x n w (by omega) (by omega)
structure LOk (f : Fd) : Prop where
  ok : fok f = true
  size : f.value.size ≤ 400
theorem c4_ok : ∀ i, i < 4 → ∀ j, j < 4 → fok ⟨n4 i, v4 j⟩ = true ∧ (v4 j).size ≤ 400 := by decide +kernel
theorem j6_ok : ∀ i, i < 6 → ∀ j, j < 6 → fok ⟨n6 i, v6 j⟩ = true ∧ (v6 j).size ≤ 400 := by decide +kernel
theorem c4_cut : ∀ i, i < 4 → ∀ j, j < 4 → ∀ m, m < (fline ⟨n4 i, v4 j⟩).length → 0 < m → (pln ((fline ⟨n4 i, v4 j⟩).take m)).2.1 = 3 := by decide +kernel
theorem cfd_ok (g : Int) : fok (cfd g) = true ∧ (cfd g).value.size ≤ 400 := c4_ok _ (cix_bd g 4 (by omega) (by omega)).1 _ (cix_bd (IntKind.i64.wrap (g.tdiv 4)) 4 (by omega) (by omega)).1
theorem jfd_ok (g : Int) : fok (jfd g) = true ∧ (jfd g).value.size ≤ 400 := j6_ok _ (cix_bd g 6 (by omega) (by omega)).1 _ (cix_bd (IntKind.i64.wrap (g.tdiv 6)) 6 (by omega) (by omega)).1
theorem cfd_cut (g : Int) (m : Nat) (h : m < (fline (cfd g)).length) (h0 : 0 < m) : (pln ((fline (cfd g)).take m)).2.1 = 3 :=
  c4_cut _ (cix_bd g 4 (by omega) (by omega)).1 _ (cix_bd (IntKind.i64.wrap (g.tdiv 4)) 4 (by omega) (by omega)).1 m h h0

theorem flines_take_succ (fs : List Fd) (k : Nat) (h : k < fs.length) : flines (fs.take (k + 1)) = flines (fs.take k) ++ fline fs[k] := by
  rw [List.take_add_one, flines_append, List.getElem?_eq_getElem h]; simp [flines]
theorem flines_split (fs : List Fd) (k : Nat) : flines fs = flines (fs.take k) ++ flines (fs.drop k) := by rw [← flines_append, List.take_append_drop]
theorem cut_low (l : List UInt8) (c : Nat) (h : c < 2) : fget (l.take c) = ([], 3) := by
  unfold fget; rw [if_pos (by rw [List.length_take]; omega)]
theorem cut_at (fs : List Fd) (h : ∀ f ∈ fs, fok f = true ∧ f.value.size ≤ 400) (hl : fs.length ≤ 16) (k c : Nat) (hc : 2 + (flines (fs.take k)).length = c) :
    fget ((0 :: 0 :: flines fs).take c) = (fs.take k, 0) := by
  have e : (0 :: 0 :: flines fs).take c = 0 :: 0 :: flines (fs.take k) := by
    rw [flines_split fs k, ← hc, show 2 + (flines (fs.take k)).length = (flines (fs.take k)).length + 1 + 1 by omega, List.take_succ_cons, List.take_succ_cons, List.take_left']
    rfl
  rw [e]
  exact fget_flines _ (fun f hf => h f (List.mem_of_mem_take hf)) (by rw [List.length_take]; omega)
theorem cut_in (fs : List Fd) (h : ∀ f ∈ fs, fok f = true ∧ f.value.size ≤ 400) (hl : fs.length ≤ 16) (k c : Nat) (hk : k < fs.length) (h1 : 2 + (flines (fs.take k)).length < c)
    (h2 : c < 2 + (flines (fs.take k)).length + (fline fs[k]).length) (hcut : ∀ m, m < (fline fs[k]).length → 0 < m → (pln ((fline fs[k]).take m)).2.1 = 3) :
    fget ((0 :: 0 :: flines fs).take c) = ([], 3) := by
  obtain ⟨m, hm⟩ : ∃ m, c = (flines (fs.take k)).length + m + 1 + 1 := ⟨c - 2 - (flines (fs.take k)).length, by omega⟩
  have e : (0 :: 0 :: flines fs).take c = 0 :: 0 :: (flines (fs.take k) ++ (fline fs[k]).take m) := by
    have e1 : fs.drop k = fs[k] :: fs.drop (k + 1) := List.drop_eq_getElem_cons hk
    have e2 : flines (fs.drop k) = fline fs[k] ++ flines (fs.drop (k + 1)) := by unfold flines; rw [e1, List.flatMap_cons]
    rw [flines_split fs k, hm, List.take_succ_cons, List.take_succ_cons, List.take_length_add_append, e2, List.take_append_of_le_length (by omega)]
  rw [e]
  unfold fget
  rw [if_neg (by simp), if_neg (by simp)]
  show fgl 17 (flines (fs.take k) ++ (fline fs[k]).take m) [] = _
  have hlt : (fs.take k).length = k := by rw [List.length_take]; omega
  have := fgl_lines (fs.take k) (17 - k) ((fline fs[k]).take m) [] (fun f hf => h f (List.mem_of_mem_take hf)) (by simp only [List.length_nil]; omega)
  rw [hlt, show 17 - k + k = 17 by omega] at this
  rw [this, List.nil_append]
  have hp := hcut m (by omega) (by omega)
  cases hq : (fline fs[k]).take m with
  | nil =>
    have : ((fline fs[k]).take m).length = 0 := by rw [hq]; rfl
    rw [List.length_take] at this; omega
  | cons x r =>
    rw [hq] at hp
    rw [show 17 - k = (16 - k) + 1 by omega, fgl_cons, if_neg (by omega), hp, if_pos (by omega)]
def pos (fs : List Fd) (m : Nat) : Nat := 2 + (flines (fs.take m)).length
theorem pos_succ (fs : List Fd) (m : Nat) (h : m < fs.length) : pos fs (m + 1) = pos fs m + (fline fs[m]).length := by
  unfold pos; rw [flines_take_succ fs m h, List.length_append]; omega
theorem exit_law (fs : List Fd) (h : ∀ f ∈ fs, fok f = true ∧ f.value.size ≤ 400) (hl : fs.length ≤ 16)
    (hcut : ∀ (m : Nat) (h : m < fs.length) (j : Nat), j < (fline fs[m]).length → 0 < j → (pln ((fline fs[m]).take j)).2.1 = 3)
    (k t : Nat) (hk : fs.length = k) (ht : t ≤ (0 :: 0 :: flines fs).length) :
    ∀ m, m ≤ k → (pos fs m ≤ t ∨ m = 0) → (m < k → t < pos fs m + (fline (fs.getD m fdz)).length) → (pos fs m ≠ t → fget ((0 :: 0 :: flines fs).take t) = ([], 3)) ∧ (pos fs m = t → fget ((0 :: 0 :: flines fs).take t) = (fs.take m, 0)) := by
  intro m hm h1 h2
  refine ⟨fun hne => ?_, fun he => cut_at fs h hl m t he⟩
  by_cases hlt : pos fs m < t
  · have hmk : m < k := by
      rcases Nat.lt_or_ge m k with h3 | h3
      · exact h3
      · have e : fs.take m = fs := List.take_of_length_le (by omega)
        unfold pos at hlt
        rw [e] at hlt
        simp only [List.length_cons] at ht
        omega
    have hmf : m < fs.length := by omega
    have h2 := h2 hmk
    rw [List.getD_eq_getElem?_getD, List.getElem?_eq_getElem hmf, Option.getD_some] at h2
    exact cut_in fs h hl m t hmf hlt h2 (hcut m hmf)
  · have hm0 : m = 0 := by omega
    subst hm0
    have : pos fs 0 = 2 := by simp [pos, flines]
    exact cut_low _ t (by omega)
end Go.Proofs.Ytjkimabcpamdcaa
