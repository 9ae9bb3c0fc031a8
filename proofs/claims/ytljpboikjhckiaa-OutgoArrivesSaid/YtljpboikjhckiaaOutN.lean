/- OutgoArrives: the plain law. -/
import Derived.Test.YtljpboikjhckiaaOutK
namespace Go.Proofs.Ytljpboikjhckiaa
open Go.RowKit

/-- No byte is under way. -/
def Calm (n : Nat) (f : Nat → UInt8) : Prop := ∀ i, i ≤ n → f i = 0 ∨ f i = 2 ∨ f i = 3
/-- How many are not there yet, the end among them. -/
def owed (n : Nat) (f : Nat → UInt8) : Nat := ((List.range (n + 1)).filter fun i => f i != 3).length
/-- The states with some places turned. -/
def upd (n a m : Nat) (e : Bool) (x : UInt8) (f : Nat → UInt8) (i : Nat) : UInt8 := if a ≤ i ∧ i < a + m then x else if i = n ∧ e = true then x else f i

/-- While something is owed, there is something to be sent. -/
theorem arr_next {D : List UInt8} {n : Nat} {f : Nat → UInt8} {room : Int} (hc : Calm n f) (hroom : 1 ≤ room) (how : ∃ i, i ≤ n ∧ f i ≠ 3) :
    ∃ (a m : Nat) (e : Bool), a + m ≤ n ∧ (1 ≤ m ∨ e = true) ∧ (m : Int) ≤ room ∧ (e = true → a + m = n) ∧ oNext D (mk n f) n room n = ((a : Int), (D.drop a).take m, e, true, mk n (upd n a m e 1 f)) ∧ (∀ i, a ≤ i → i < a + m → f i ≠ 3) ∧ (e = true → f n ≠ 3) := by
  obtain ⟨L, hL⟩ : ∃ L, ahead ((mk n f).take n) 2 = L := ⟨_, rfl⟩
  have hLle : L ≤ n := by have := ahead_le ((mk n f).take n) 2; rw [hL] at this; simp at this; omega
  have hLne : ∀ j, j < L → f j ≠ 2 := fun j hj => by
    obtain ⟨y, hy, hne⟩ := ahead_ne ((mk n f).take n) 2 j (by rw [hL]; exact hj)
    rw [List.getElem?_take_of_lt (by omega), mk_get (by omega)] at hy
    injection hy with hy; rw [hy]; exact hne
  by_cases hLn : L < n
  · have hfL : f L = 2 := by
      have := ahead_eq ((mk n f).take n) 2 (by rw [hL]; simp; omega)
      rw [hL, List.getElem?_take_of_lt hLn, mk_get (by omega)] at this
      injection this
    obtain ⟨r, hr⟩ : ∃ r, runOf ((mk n f).drop L) 2 (n - L) = r := ⟨_, rfl⟩
    have hrle := runOf_le ((mk n f).drop L) 2 (n - L)
    rw [hr] at hrle
    have hris : ∀ j, L ≤ j → j < L + r → f j = 2 := fun j h1 h2 => by
      have := runOf_is ((mk n f).drop L) 2 (n - L) (j - L) (by omega)
      rw [List.getElem?_drop, show L + (j - L) = j from by omega, mk_get (by omega)] at this
      injection this
    have hrst : L + r < n → f (L + r) ≠ 2 := fun h => by
      have := runOf_stop ((mk n f).drop L) 2 (n - L) (by rw [hr]; omega)
      rw [hr, List.getElem?_drop, mk_get (by omega)] at this
      exact fun e => this (by rw [e])
    have hr0 : 0 < r := by
      rcases Nat.eq_zero_or_pos r with h | h
      · exact absurd hfL (by have := hrst (by omega); rwa [h, Nat.add_zero] at this)
      · exact h
    obtain ⟨m, hm⟩ : ∃ m : Nat, (m : Int) = min (r : Int) room := ⟨(min (r : Int) room).toNat, by omega⟩
    have := mk_next_lost (D := D) (allow := n) hroom hLne hLn hris hr0 (by omega) hrst m hm
    refine ⟨L, m, (decide (L + m = n) && (decide (f n = 0) || decide (f n = 2))), by omega, by omega, by omega, ?_, this.trans ?_, fun i h1 h2 => by rw [hris i h1 (by omega)]; decide, ?_⟩
    · intro h; rw [Bool.and_eq_true] at h; exact of_decide_eq_true h.1
    · congr 4
      apply mk_ext
      intro i hi
      simp only [upd, Bool.and_eq_true, Bool.or_eq_true, decide_eq_true_eq]
    · intro h
      rw [Bool.and_eq_true, Bool.or_eq_true, decide_eq_true_eq, decide_eq_true_eq, decide_eq_true_eq] at h
      rcases h.2 with h | h <;> rw [h] <;> decide
  · have hall : ∀ j, j < n → f j ≠ 2 := fun j hj => hLne j (by omega)
    by_cases hn2 : f n = 2
    · have := mk_next_end (D := D) (room := room) (allow := n) hall (.inl hn2)
      refine ⟨n, 0, true, by omega, .inr rfl, by omega, fun _ => by omega, this.trans ?_, fun i h1 h2 => by omega, fun _ => by rw [hn2]; decide⟩
      simp only [List.take_zero]
      congr 4
      apply mk_ext
      intro i hi
      unfold upd; rw [if_neg (show ¬ (n ≤ i ∧ i < n + 0) from by omega)]; simp
    · obtain ⟨F, hF⟩ : ∃ L, ahead ((mk n f).take n) 0 = L := ⟨_, rfl⟩
      have hFle : F ≤ n := by have := ahead_le ((mk n f).take n) 0; rw [hF] at this; simp at this; omega
      have hFne : ∀ j, j < F → f j ≠ 0 := fun j hj => by
        obtain ⟨y, hy, hne⟩ := ahead_ne ((mk n f).take n) 0 j (by rw [hF]; exact hj)
        rw [List.getElem?_take_of_lt (by omega), mk_get (by omega)] at hy
        injection hy with hy; rw [hy]; exact hne
      by_cases hFn : F < n
      · have hfF : f F = 0 := by
          have := ahead_eq ((mk n f).take n) 0 (by rw [hF]; simp; omega)
          rw [hF, List.getElem?_take_of_lt hFn, mk_get (by omega)] at this
          injection this
        obtain ⟨r, hr⟩ : ∃ r, runOf ((mk n f).drop F) 0 (n - F) = r := ⟨_, rfl⟩
        have hrle := runOf_le ((mk n f).drop F) 0 (n - F)
        rw [hr] at hrle
        have hris : ∀ j, F ≤ j → j < F + r → f j = 0 := fun j h1 h2 => by
          have := runOf_is ((mk n f).drop F) 0 (n - F) (j - F) (by omega)
          rw [List.getElem?_drop, show F + (j - F) = j from by omega, mk_get (by omega)] at this
          injection this
        have hrst : F + r < n → f (F + r) ≠ 0 := fun h => by
          have := runOf_stop ((mk n f).drop F) 0 (n - F) (by rw [hr]; omega)
          rw [hr, List.getElem?_drop, mk_get (by omega)] at this
          exact fun e => this (by rw [e])
        have hr0 : 0 < r := by
          rcases Nat.eq_zero_or_pos r with h | h
          · exact absurd hfF (by have := hrst (by omega); rwa [h, Nat.add_zero] at this)
          · exact h
        obtain ⟨m, hm⟩ : ∃ m : Nat, (m : Int) = min (min (r : Int) room) ((n : Int) - F) := ⟨(min (min (r : Int) room) ((n : Int) - F)).toNat, by omega⟩
        have := mk_next_new (D := D) (allow := n) hroom hall hn2 hFne hFn (by omega) hris hr0 (by omega) hrst m hm
        refine ⟨F, m, (decide (F + m = n) && decide (f n = 0)), by omega, by omega, by omega, ?_, this.trans ?_, fun i h1 h2 => by rw [hris i h1 (by omega)]; decide, ?_⟩
        · intro h; rw [Bool.and_eq_true] at h; exact of_decide_eq_true h.1
        · congr 4
          apply mk_ext
          intro i hi
          simp only [upd, Bool.and_eq_true, decide_eq_true_eq]
        · intro h
          rw [Bool.and_eq_true, decide_eq_true_eq, decide_eq_true_eq] at h
          rw [h.2]; decide
      · have hall3 : ∀ j, j < n → f j = 3 := fun j hj => by
          rcases hc j (by omega) with h | h | h
          · exact absurd h (hFne j (by omega))
          · exact absurd h (hall j hj)
          · exact h
        have hn3 : f n = 0 := by
          rcases hc n (Nat.le_refl _) with h | h | h
          · exact h
          · exact absurd h hn2
          · obtain ⟨i, hi, hne⟩ := how
            rcases Nat.lt_or_ge i n with h2 | h2
            · exact absurd (hall3 i h2) hne
            · have : i = n := by omega
              subst this; exact absurd h hne
        have := mk_next_end (D := D) (room := room) (allow := n) hall (.inr ⟨hn3, fun j hj => by rw [hall3 j hj]; decide⟩)
        refine ⟨n, 0, true, by omega, .inr rfl, by omega, fun _ => by omega, this.trans ?_, fun i h1 h2 => by omega, fun _ => by rw [hn3]; decide⟩
        simp only [List.take_zero]
        congr 4
        apply mk_ext
        intro i hi
        unfold upd; rw [if_neg (show ¬ (n ≤ i ∧ i < n + 0) from by omega)]; simp

theorem arr_turn {n a m : Nat} {e : Bool} {f : Nat → UInt8} (hc : Calm n f) (ham : a + m ≤ n) (to : UInt8) (fr : List UInt8) (h1 : (1 : UInt8) ∈ fr) (hfr : ∀ x ∈ fr, x = 1 ∨ x = 2) (h2 : ∀ i, i ≤ n → 2 ∈ fr → upd n a m e 1 f i = 2 → ¬ ((a ≤ i ∧ i < a + m) ∨ (i = n ∧ e = true))) :
    oturn (mk n (upd n a m e 1 f)) n a m e to fr = mk n (upd n a m e to f) := by
  rw [mk_turn, onorm_pos (by omega)]
  apply mk_ext
  intro i hi
  rw [turn_eval]
  by_cases c1 : a ≤ i ∧ i < a + m
  · have e1 : upd n a m e 1 f i = 1 := by rw [upd, if_pos c1]
    rw [e1, if_pos ⟨.inl ⟨by omega, by omega, by omega, by omega⟩, h1⟩, upd, if_pos c1]
  · by_cases c2 : i = n ∧ e = true
    · have e1 : upd n a m e 1 f i = 1 := by rw [upd, if_neg c1, if_pos c2]
      rw [e1, if_pos ⟨.inr c2, h1⟩, upd, if_neg c1, if_pos c2]
    · rw [if_neg, upd, if_neg c1, if_neg c2, upd, if_neg c1, if_neg c2]
      rintro ⟨h, _⟩
      rcases h with h | h
      · exact c1 ⟨by omega, by omega⟩
      · exact c2 h
theorem filter_le {α : Type} (l : List α) (p q : α → Bool) (h : ∀ x ∈ l, q x = true → p x = true) : (l.filter q).length ≤ (l.filter p).length := by
  induction l with
  | nil => exact Nat.le_refl _
  | cons x l ih =>
    have := ih (fun y hy => h y (List.mem_cons_of_mem _ hy))
    have hx := h x List.mem_cons_self
    simp only [List.filter_cons]
    split
    · rename_i hq; rw [if_pos (hx hq)]; simpa using this
    · split
      · simp; omega
      · exact this
theorem filter_lt {α : Type} (l : List α) (p q : α → Bool) (h : ∀ x ∈ l, q x = true → p x = true) (y : α) (hy : y ∈ l) (hp : p y = true) (hq : q y = false) : (l.filter q).length + 1 ≤ (l.filter p).length := by
  induction l with
  | nil => cases hy
  | cons x l ih =>
    have hx := h x List.mem_cons_self
    have hl := fun z hz => h z (List.mem_cons_of_mem x hz)
    simp only [List.filter_cons]
    rcases List.mem_cons.1 hy with rfl | hy
    · rw [if_pos hp, if_neg (by rw [hq]; decide)]
      have := filter_le l p q hl
      simp; omega
    · have := ih hl hy
      split
      · rename_i h1; rw [if_pos (hx h1)]; simp; omega
      · split
        · simp; omega
        · exact this
theorem owed_le (n : Nat) (f : Nat → UInt8) : owed n f ≤ n + 1 := by
  unfold owed
  have := List.length_filter_le (fun i => f i != 3) (List.range (n + 1))
  simpa using this
theorem owed_pos {n : Nat} {f : Nat → UInt8} (h : 0 < owed n f) : ∃ i, i ≤ n ∧ f i ≠ 3 := by
  unfold owed at h
  obtain ⟨i, hi⟩ := List.exists_mem_of_length_pos h
  rw [List.mem_filter, List.mem_range] at hi
  exact ⟨i, by omega, bne_iff_ne.1 hi.2⟩
theorem owed_zero {n : Nat} {f : Nat → UInt8} (h : owed n f = 0) : ∀ i, i ≤ n → f i = 3 := by
  intro i hi
  unfold owed at h
  have := List.eq_nil_of_length_eq_zero h
  rw [List.filter_eq_nil_iff] at this
  have := this i (List.mem_range.2 (by omega))
  simpa using this
theorem owed_there {n a m : Nat} {e : Bool} {f : Nat → UInt8} (ham : a + m ≤ n) (hme : 1 ≤ m ∨ e = true) (h1 : ∀ i, a ≤ i → i < a + m → f i ≠ 3) (h2 : e = true → f n ≠ 3) : owed n (upd n a m e 3 f) + 1 ≤ owed n f := by
  have hmono : ∀ i ∈ List.range (n + 1), (upd n a m e 3 f i != 3) = true → (f i != 3) = true := fun i _ h => by
    unfold upd at h
    split at h
    · exact absurd h (by decide)
    · split at h
      · exact absurd h (by decide)
      · exact h
  rcases hme with hm | he
  · exact filter_lt _ _ _ hmono a (List.mem_range.2 (by omega)) (bne_iff_ne.2 (h1 a (Nat.le_refl _) (by omega))) (by rw [upd, if_pos ⟨Nat.le_refl _, by omega⟩]; rfl)
  · exact filter_lt _ _ _ hmono n (List.mem_range.2 (by omega)) (bne_iff_ne.2 (h2 he)) (by
      unfold upd; split
      · rfl
      · rw [if_pos ⟨rfl, he⟩]; rfl)
theorem owed_lost {n a m : Nat} {e : Bool} {f : Nat → UInt8} (h1 : ∀ i, a ≤ i → i < a + m → f i ≠ 3) (h2 : e = true → f n ≠ 3) : owed n (upd n a m e 2 f) ≤ owed n f := by
  unfold owed
  refine filter_le _ _ _ fun i _ h => ?_
  unfold upd at h
  split at h
  · rename_i c; exact bne_iff_ne.2 (h1 i c.1 c.2)
  · split at h
    · rename_i c; rw [c.1]; exact bne_iff_ne.2 (h2 c.2)
    · exact h
theorem calm_upd {n a m : Nat} {e : Bool} {x : UInt8} {f : Nat → UInt8} (hc : Calm n f) (hx : x = 2 ∨ x = 3) : Calm n (upd n a m e x f) := fun i hi => by
  unfold upd
  split
  · exact .inr hx
  · split
    · exact .inr hx
    · exact hc i hi
end Go.Proofs.Ytljpboikjhckiaa
