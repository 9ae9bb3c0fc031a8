/- outgo: the plain law of states told place by place. -/
import Derived.Test.YtljpboikjhckiaaOutG
namespace Go.Proofs.Ytljpboikjhckiaa
open Go.RowKit

/-- The states of n bytes and the end, told by a function. -/
def mk (n : Nat) (f : Nat → UInt8) : List UInt8 := (List.range (n + 1)).map f
@[simp] theorem mk_length (n : Nat) (f : Nat → UInt8) : (mk n f).length = n + 1 := by simp [mk]
theorem mk_get {n : Nat} {f : Nat → UInt8} {i : Nat} (h : i ≤ n) : (mk n f)[i]? = some (f i) := by
  simp [mk, List.getElem?_range (show i < n + 1 by omega)]
theorem mk_end (n : Nat) (f : Nat → UInt8) : (mk n f)[n]? = some (f n) := mk_get (Nat.le_refl n)
theorem mk_ext {n : Nat} {f h : Nat → UInt8} (e : ∀ i, i ≤ n → f i = h i) : mk n f = mk n h := by
  unfold mk
  exact List.map_congr_left fun i hi => e i (by have := List.mem_range.1 hi; omega)
theorem mk_zero (n : Nat) (x : UInt8) : List.replicate (n + 1) x = mk n fun _ => x := by
  apply List.ext_getElem <;> simp [mk]
theorem mk_of (l : List UInt8) (n : Nat) (h : l.length = n + 1) : l = mk n fun i => l.getD i 0 := by
  apply List.ext_getElem?
  intro i
  by_cases hi : i ≤ n
  · rw [mk_get hi, List.getD_eq_getElem?_getD, List.getElem?_eq_getElem (by omega)]; rfl
  · rw [List.getElem?_eq_none (by omega), List.getElem?_eq_none (by simp; omega)]
theorem mk_turn (n : Nat) (f : Nat → UInt8) (off m : Int) (e : Bool) (to : UInt8) (fr : List UInt8) :
    oturn (mk n f) n off m e to fr = mk n fun i => turn1 n (onorm off m).1 (onorm off m).2 e to fr i (f i) := by
  apply List.ext_getElem
  · simp [oturn]
  · intro i h1 h2; simp [oturn, mk]
theorem mk_marks (n : Nat) (f : Nat → UInt8) (a k : Nat) : marks (mk n f) a k = mk n fun i => if a ≤ i ∧ i < a + k then 1 else f i := by
  apply List.ext_getElem?
  intro i
  by_cases hi : i ≤ n
  · rw [marks_get _ _ _ _ (by simp; omega), mk_get hi, mk_get hi]; split <;> rfl
  · rw [List.getElem?_eq_none (by simp; omega), List.getElem?_eq_none (by simp; omega)]
theorem mk_set (n : Nat) (f : Nat → UInt8) (x : UInt8) : (mk n f).set n x = mk n fun i => if i = n then x else f i := by
  apply List.ext_getElem?
  intro i
  rw [List.getElem?_set]
  by_cases h : n = i
  · subst h; rw [if_pos rfl, if_pos (by simp), mk_end, if_pos rfl]
  · rw [if_neg h]
    by_cases hi : i ≤ n
    · rw [mk_get hi, mk_get hi, if_neg (Ne.symm h)]
    · rw [List.getElem?_eq_none (by simp; omega), List.getElem?_eq_none (by simp; omega)]
theorem mk_ahead {n k : Nat} {f : Nat → UInt8} {x : UInt8} (h1 : ∀ j, j < k → f j ≠ x) (hk : k ≤ n) (h2 : k < n → f k = x) : ahead ((mk n f).take n) x = k := by
  apply ahead_of
  · intro j hj
    exact ⟨f j, by rw [List.getElem?_take_of_lt (by omega), mk_get (by omega)], h1 j hj⟩
  · intro y hy
    by_cases hkn : k < n
    · rw [List.getElem?_take_of_lt hkn, mk_get (by omega)] at hy
      injection hy with hy
      rw [← hy]; exact h2 hkn
    · rw [List.getElem?_eq_none (by simp; omega)] at hy; cases hy
theorem mk_run {n a r : Nat} {f : Nat → UInt8} {x : UInt8} (h1 : ∀ j, a ≤ j → j < a + r → f j = x) (hk : a + r ≤ n) (h2 : a + r < n → f (a + r) ≠ x) : runOf ((mk n f).drop a) x (n - a) = r := by
  apply runOf_of
  · intro j hj
    rw [List.getElem?_drop, mk_get (by omega), h1 (a + j) (by omega) (by omega)]
  · omega
  · intro hr
    rw [List.getElem?_drop, mk_get (by omega)]
    intro e; injection e with e
    exact h2 (by omega) e
theorem mk_take (n : Nat) (f : Nat → UInt8) : (mk n f).take n = (List.range n).map f := by
  unfold mk; rw [← List.map_take, List.take_range]; congr 2; omega
theorem mk_cnt_pre {n k : Nat} {f : Nat → UInt8} {x : UInt8} (hk : k ≤ n) (h1 : ∀ i, i < k → f i ≠ x) (h2 : ∀ i, k ≤ i → i < n → f i = x) : cntNe ((mk n f).take n) x = k := by
  rw [mk_take]
  induction n generalizing k with
  | zero => have : k = 0 := by omega
            subst this; rfl
  | succ n ih =>
    rw [List.range_succ, List.map_append, cntNe, List.filter_append, List.length_append]
    by_cases hkn : k = n + 1
    · have := ih (Nat.le_refl n) (fun i hi => h1 i (by omega)) (fun i a b => by omega)
      unfold cntNe at this
      rw [this]
      have hb : (f n != x) = true := bne_iff_ne.2 (h1 n (by omega))
      simp [List.filter_cons, hb]; omega
    · have := ih (k := k) (by omega) h1 (fun i a b => h2 i a (by omega))
      unfold cntNe at this
      rw [this]
      simp [h2 n (by omega) (by omega)]
theorem mk_cnt_suf {n k : Nat} {f : Nat → UInt8} {x : UInt8} (hk : k ≤ n) (h1 : ∀ i, i < k → f i = x) (h2 : ∀ i, k ≤ i → i < n → f i ≠ x) : cntNe ((mk n f).take n) x = n - k := by
  rw [mk_take]
  induction n generalizing k with
  | zero => simp [cntNe]
  | succ n ih =>
    rw [List.range_succ, List.map_append, cntNe, List.filter_append, List.length_append]
    by_cases hkn : k = n + 1
    · have := ih (Nat.le_refl n) (fun i hi => h1 i (by omega)) (fun i a b => by omega)
      unfold cntNe at this
      rw [this]
      simp [h1 n (by omega)]; omega
    · have := ih (k := k) (by omega) h1 (fun i a b => h2 i a (by omega))
      unfold cntNe at this
      rw [this]
      have hb : (f n != x) = true := bne_iff_ne.2 (h2 n (by omega) (by omega))
      simp [List.filter_cons, hb]; omega
theorem mk_done {n : Nat} {f : Nat → UInt8} (h : ∀ i, i ≤ n → f i = 3) : odone (mk n f) n = true := by
  unfold odone
  rw [mk_cnt_pre (k := 0) (Nat.zero_le _) (fun i hi => by omega) (fun i _ hi => h i (by omega)), mk_end, h n (Nat.le_refl _)]; rfl

/-- What is to be sent: lost bytes first. -/
theorem mk_next_lost {D : List UInt8} {n a r : Nat} {f : Nat → UInt8} {room allow : Int} (hroom : 1 ≤ room) (h0 : ∀ j, j < a → f j ≠ 2) (ha : a < n) (h1 : ∀ j, a ≤ j → j < a + r → f j = 2) (hr : 0 < r) (hk : a + r ≤ n) (h2 : a + r < n → f (a + r) ≠ 2) (m : Nat) (hm : (m : Int) = min (r : Int) room) :
    oNext D (mk n f) n room allow = ((a : Int), (D.drop a).take m, (decide (a + m = n) && (decide (f n = 0) || decide (f n = 2))), true,
      mk n fun i => if a ≤ i ∧ i < a + m then 1 else if i = n ∧ (a + m = n ∧ (f n = 0 ∨ f n = 2)) then 1 else f i) := by
  have e1 : onext (mk n f) n (max room 0) allow = ((a : Int), (m : Int), true) := by
    unfold onext
    simp only
    rw [mk_ahead h0 (by omega) (fun _ => h1 a (by omega) (by omega)), mk_run h1 hk h2]
    simp only [ha, if_true]
    congr 2; omega
  have e2 : oend (mk n f) n a m = (decide (a + m = n) && (decide (f n = 0) || decide (f n = 2))) := oend_val (mk_end n f)
  unfold oNext
  rw [e1]
  simp only [Int.toNat_natCast]
  rw [if_neg (by rintro (h | h); cases h; omega), e2]
  congr 4
  by_cases hc : a + m = n ∧ (f n = 0 ∨ f n = 2)
  · rw [if_pos (by simpa using hc), mk_marks, mk_set]
    apply mk_ext
    intro i hi
    by_cases hin : i = n
    · rw [if_pos hin, if_neg (by omega), if_pos ⟨hin, hc⟩]
    · rw [if_neg hin]; split
      · rfl
      · rw [if_neg (fun h => hin h.1)]
  · rw [if_neg (by simpa using hc), mk_marks]
    apply mk_ext
    intro i hi
    split
    · rfl
    · rw [if_neg (fun h => hc h.2)]
/-- .. then new ones, as far as is allowed. -/
theorem mk_next_new {D : List UInt8} {n a r : Nat} {f : Nat → UInt8} {room allow : Int} (hroom : 1 ≤ room) (hl : ∀ j, j < n → f j ≠ 2) (he : f n ≠ 2) (h0 : ∀ j, j < a → f j ≠ 0) (ha : a < n) (haw : (a : Int) < allow) (h1 : ∀ j, a ≤ j → j < a + r → f j = 0) (hr : 0 < r) (hk : a + r ≤ n) (h2 : a + r < n → f (a + r) ≠ 0) (m : Nat) (hm : (m : Int) = min (min (r : Int) room) (allow - a)) :
    oNext D (mk n f) n room allow = ((a : Int), (D.drop a).take m, (decide (a + m = n) && decide (f n = 0)), true,
      mk n fun i => if a ≤ i ∧ i < a + m then 1 else if i = n ∧ (a + m = n ∧ f n = 0) then 1 else f i) := by
  have e1 : onext (mk n f) n (max room 0) allow = ((a : Int), (m : Int), true) := by
    unfold onext
    simp only
    rw [mk_ahead (k := n) hl (Nat.le_refl _) (fun h => by omega), mk_ahead h0 (by omega) (fun _ => h1 a (by omega) (by omega)), mk_run h1 hk h2, mk_end]
    simp only [Nat.lt_irrefl, if_false, Option.some.injEq, he, ha, haw, if_true]
    congr 2; omega
  have e2 : oend (mk n f) n a m = (decide (a + m = n) && decide (f n = 0)) := by rw [oend_val (mk_end n f), decide_eq_false he, Bool.or_false]
  unfold oNext
  rw [e1]
  simp only [Int.toNat_natCast]
  rw [if_neg (by rintro (h | h); cases h; omega), e2]
  congr 4
  by_cases hc : a + m = n ∧ f n = 0
  · rw [if_pos (by simpa using hc), mk_marks, mk_set]
    apply mk_ext
    intro i hi
    by_cases hin : i = n
    · rw [if_pos hin, if_neg (by omega), if_pos ⟨hin, hc⟩]
    · rw [if_neg hin]; split
      · rfl
      · rw [if_neg (fun h => hin h.1)]
  · rw [if_neg (by simpa using hc), mk_marks]
    apply mk_ext
    intro i hi
    split
    · rfl
    · rw [if_neg (fun h => hc h.2)]
/-- .. then the end alone. -/
theorem mk_next_end {D : List UInt8} {n : Nat} {f : Nat → UInt8} {room allow : Int} (hl : ∀ j, j < n → f j ≠ 2) (he : f n = 2 ∨ (f n = 0 ∧ ∀ j, j < n → f j ≠ 0)) :
    oNext D (mk n f) n room allow = ((n : Int), [], true, true, mk n fun i => if i = n then 1 else f i) := by
  have e1 : onext (mk n f) n (max room 0) allow = ((n : Int), (0 : Int), true) := by
    unfold onext
    simp only
    rw [mk_ahead (k := n) hl (Nat.le_refl _) (fun h => by omega), mk_end]
    rcases he with he | ⟨he, h0⟩
    · simp only [Nat.lt_irrefl, if_false, he, if_true]
    · rw [mk_ahead (k := n) h0 (Nat.le_refl _) (fun h => by omega)]
      simp [he]
  have e2 : oend (mk n f) n n 0 = true := by
    rw [oend_val (mk_end n f)]
    rcases he with he | ⟨he, _⟩ <;> simp [he]
  unfold oNext
  rw [e1]
  simp only [Int.toNat_natCast, Int.toNat_zero]
  rw [e2, if_neg (by rintro (h | ⟨_, h⟩) <;> cases h)]
  simp only [List.take_zero, if_true, marks, mk_set]
/-- .. else nothing. -/
theorem mk_next_none {D : List UInt8} {n a : Nat} {f : Nat → UInt8} {room allow : Int} (hl : ∀ j, j < n → f j ≠ 2) (he : f n ≠ 2) (h0 : ∀ j, j < a → f j ≠ 0) (ha : a ≤ n) (h1 : a < n → f a = 0 ∧ allow ≤ a) (h2 : a = n → f n ≠ 0) :
    oNext D (mk n f) n room allow = (0, [], false, false, mk n f) := by
  have e1 : onext (mk n f) n (max room 0) allow = (0, 0, false) := by
    unfold onext
    simp only
    rw [mk_ahead (k := n) hl (Nat.le_refl _) (fun h => by omega), mk_ahead h0 ha (fun h => (h1 h).1), mk_end]
    simp only [Nat.lt_irrefl, if_false, Option.some.injEq, he]
    by_cases hn : a < n
    · have := (h1 hn).2
      rw [if_pos hn, if_neg (by omega)]
    · rw [if_neg hn, if_neg (h2 (by omega))]
  unfold oNext
  rw [e1]; rfl
end Go.Proofs.Ytljpboikjhckiaa
