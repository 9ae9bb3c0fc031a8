/- slices.Index of a byte in a list of bytes: how many others stand ahead of the first one, or -1; it turns nothing. -/
import Derived.Test.YtljpboikjhckiaaStill
namespace Go.Proofs.Ytljpboikjhckiaa
open Go.RowKit

/-- How many ahead of the first x; all, if there is none. -/
def ahead (l : List UInt8) (x : UInt8) : Nat := (l.takeWhile (· != x)).length
def fidb (l : List UInt8) (x : UInt8) : Int := if ahead l x < l.length then (ahead l x : Int) else -1
theorem ahead_le (l : List UInt8) (x : UInt8) : ahead l x ≤ l.length := (List.takeWhile_sublist _).length_le
theorem ahead_of (l : List UInt8) (x : UInt8) : ∀ k, (∀ j, j < k → ∃ y, l[j]? = some y ∧ y ≠ x) → (∀ y, l[k]? = some y → y = x) → ahead l x = k := by
  induction l with
  | nil =>
    intro k h _
    cases k with
    | zero => rfl
    | succ k => obtain ⟨y, hy, _⟩ := h 0 (by omega); simp at hy
  | cons b l ih =>
    intro k h h2
    cases k with
    | zero => have := h2 b rfl; simp [ahead, this]
    | succ k =>
      obtain ⟨y, hy, hne⟩ := h 0 (by omega)
      simp only [List.getElem?_cons_zero] at hy
      injection hy with hy
      subst hy
      have hb : (b != x) = true := bne_iff_ne.2 hne
      simp only [ahead, List.takeWhile_cons, hb, if_true, List.length_cons]
      have := ih k (fun j hj => by simpa using h (j + 1) (by omega)) (by simpa using h2)
      unfold ahead at this
      rw [this]
theorem ahead_ne (l : List UInt8) (x : UInt8) : ∀ j, j < ahead l x → ∃ y, l[j]? = some y ∧ y ≠ x := by
  induction l with
  | nil => intro j hj; simp [ahead] at hj
  | cons b l ih =>
    intro j hj
    by_cases hb : b = x
    · subst hb; simp [ahead] at hj
    · have hb' : (b != x) = true := bne_iff_ne.2 hb
      simp only [ahead, List.takeWhile_cons, hb', if_true, List.length_cons] at hj
      cases j with
      | zero => exact ⟨b, rfl, hb⟩
      | succ j => simpa using ih j (by unfold ahead; omega)
theorem ahead_eq (l : List UInt8) (x : UInt8) (h : ahead l x < l.length) : l[ahead l x]? = some x := by
  induction l with
  | nil => simp at h
  | cons b l ih =>
    by_cases hb : b = x
    · subst hb; simp [ahead]
    · have hb' : (b != x) = true := bne_iff_ne.2 hb
      simp only [ahead, List.takeWhile_cons, hb', if_true, List.length_cons] at h ⊢
      have := ih (by unfold ahead; omega)
      unfold ahead at this
      rw [List.getElem?_cons_succ]; exact this

set_option maxHeartbeats 1000000 in
theorem indexb_any (l : List UInt8) (x : UInt8) (A : Option Addr) (c : Nat) (w : World) (hr : Rd w A (bv l)) (hl : l.length ≤ 140737488355328) :
    Calls Try.prog 35 #[.slice A l.length c, .int .u8 x.toNat] w fun e w' => e = .returned (.int .i64 (fidb l x)) ∧ w = w' := by
  go_enter Try.func35, Try.ntmps35
  go_wp2
  go_loop [8, 5] (fun i _ => ∃ k : Nat, k ≤ l.length ∧ i = .int .i64 k ∧ Hid (∀ j, j < k → ∃ y, l[j]? = some y ∧ y ≠ x)) (fun i _ => l.length - (intOf i).toNat)
  case atStart => exact ⟨0, by omega, rfl, Lib.hid (fun j hj => absurd hj (by omega))⟩
  case round =>
    obtain ⟨k, hk, rfl, HT⟩ := hrel
    by_cases hkl : k < l.length
    · obtain ⟨b1, o1, rfl, g1⟩ := hr.at_ (k := k) (by simpa using hkl)
      simp only [bv, List.getElem_map] at g1
      obtain ⟨v, hv⟩ : ∃ v, l[k] = v := ⟨_, rfl⟩
      have hv' : Hid (l[k]? = some v) := Lib.hid (by rw [List.getElem?_eq_getElem hkl, hv])
      rw [hv] at g1
      clear hv
      by_cases hvx : v = x
      · subst hvx
        go_wp2
        go_ret
        have := ahead_of l v k HT.out (fun y hy => by rw [hv'.out] at hy; injection hy with hy; exact hy.symm)
        have e : fidb l v = k := by unfold fidb; rw [this, if_pos hkl]
        exact ⟨ret_int e.symm, rfl⟩
      · have hne : ((x.toNat : Int) == (v.toNat : Int)) = false := by
          rw [beq_eq_false_iff_ne]; intro h; exact hvx (UInt8.toNat_inj.1 (Int.ofNat.inj h)).symm
        have hne2 : ((v.toNat : Int) == (x.toNat : Int)) = false := by
          rw [beq_eq_false_iff_ne]; intro h; exact hvx (UInt8.toNat_inj.1 (Int.ofNat.inj h))
        have HT2 : Hid (∀ j, j < k + 1 → ∃ y, l[j]? = some y ∧ y ≠ x) := Lib.hid (fun j hj => by
            rcases Nat.lt_or_ge j k with h | h
            · exact HT.out j h
            · have : j = k := by omega
              subst this; exact ⟨v, hv'.out, hvx⟩)
        replace hvx := Lib.hid hvx
        go_wp2
        go_round
        case rel => exact ⟨k + 1, by omega, by go_num, HT2⟩
        case measure => simp [intOf]; omega
    · have hk' : k = l.length := by omega
      subst hk'
      go_wp2
      go_ret
      have := ahead_of l x l.length HT.out (fun y hy => by rw [List.getElem?_eq_none (by omega)] at hy; cases hy)
      have e : fidb l x = -1 := by unfold fidb; rw [this, if_neg (by omega)]
      exact ⟨ret_int e.symm, rfl⟩
theorem fidb_ge (l : List UInt8) (x : UInt8) : -1 ≤ fidb l x ∧ fidb l x < l.length ∨ l.length = 0 ∧ fidb l x = -1 := by
  unfold fidb; split <;> omega
end Go.Proofs.Ytljpboikjhckiaa
