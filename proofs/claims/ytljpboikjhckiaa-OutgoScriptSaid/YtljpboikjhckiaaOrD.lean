/- The document's own Out: Next. -/
import Derived.Test.YtljpboikjhckiaaOrC
import Derived.Test.YtljpboikjhckiaaOutF
namespace Go.Proofs.Ytljpboikjhckiaa
open Go.RowKit

def RNextPost (p g n : Nat) (AD : Option Addr) (cD : Nat) (D : List UInt8) (w : World) (r : Int × List UInt8 × Bool × Bool × List UInt8) (e : Ending) (w' : World) : Prop :=
  ∃ A c, e = .returned (.tuple #[.int .i64 r.1, .slice A r.2.1.length c, .bool r.2.2.1, .bool r.2.2.2.1]) ∧ w'.ownsRow w.heap.size 5 1 (.slice A r.2.1.length c) r.2.1.length (bv r.2.1) ∧ IsRo w' p g n AD cD D r.2.2.2.2 ∧ Fr (· = g) w w'
/-- What is to be sent, told apart as the document does. -/
theorem onext_some {S : List UInt8} {n a m : Nat} {R allow : Int} {v : UInt8} (hS : S.length = n + 1) (hv : S[n]? = some v) (hR : 0 ≤ R) (h : onext S n R allow = ((a : Int), (m : Int), true)) :
    (ahead (S.take n) 2 < n ∧ a = ahead (S.take n) 2 ∧ (m : Int) ≤ R ∧ a + m ≤ n ∧ (∀ j, j < m → S[a + j]? = some 2) ∧ (a + m < n → (m : Int) < R → S[a + m]? ≠ some 2)) ∨
    (¬ ahead (S.take n) 2 < n ∧ v = 2 ∧ a = n ∧ m = 0) ∨
    (¬ ahead (S.take n) 2 < n ∧ v ≠ 2 ∧ ahead (S.take n) 0 < n ∧ (ahead (S.take n) 0 : Int) < allow ∧ a = ahead (S.take n) 0 ∧ (m : Int) ≤ R ∧ (a : Int) + m ≤ allow ∧ a + m ≤ n ∧ (∀ j, j < m → S[a + j]? = some 0) ∧ (a + m < n → (m : Int) < R → (a : Int) + m < allow → S[a + m]? ≠ some 0)) ∨
    (¬ ahead (S.take n) 2 < n ∧ v ≠ 2 ∧ ¬ ahead (S.take n) 0 < n ∧ v = 0 ∧ a = n ∧ m = 0) := by
  unfold onext at h
  obtain ⟨L, hL⟩ : ∃ L, ahead (S.take n) 2 = L := ⟨_, rfl⟩
  obtain ⟨F, hF⟩ : ∃ F, ahead (S.take n) 0 = F := ⟨_, rfl⟩
  simp only [hL, hF, hv, Option.some.injEq] at h ⊢
  by_cases h1 : L < n
  · rw [if_pos h1] at h
    injection h with e1 h
    injection h with e2 _
    have := runOf_le (S.drop L) 2 (n - L)
    have ha : a = L := by omega
    subst ha
    refine .inl ⟨h1, rfl, by omega, by omega, fun j hj => ?_, fun h2 h3 => ?_⟩
    · have := runOf_is (S.drop a) 2 (n - a) j (by omega)
      rwa [List.getElem?_drop] at this
    · have hr : runOf (S.drop a) 2 (n - a) = m := by omega
      have := runOf_stop (S.drop a) 2 (n - a) (by omega)
      rwa [hr, List.getElem?_drop] at this
  · rw [if_neg h1] at h
    by_cases h2 : v = 2
    · rw [if_pos h2] at h
      injection h with e1 h
      injection h with e2 _
      exact .inr (.inl ⟨h1, h2, by omega, by omega⟩)
    · rw [if_neg h2] at h
      by_cases h3 : F < n
      · rw [if_pos h3] at h
        by_cases h4 : (F : Int) < allow
        · rw [if_pos h4] at h
          injection h with e1 h
          injection h with e2 _
          have := runOf_le (S.drop F) 0 (n - F)
          have ha : a = F := by omega
          subst ha
          refine .inr (.inr (.inl ⟨h1, h2, h3, h4, rfl, by omega, by omega, by omega, fun j hj => ?_, fun h5 h6 h7 => ?_⟩))
          · have := runOf_is (S.drop a) 0 (n - a) j (by omega)
            rwa [List.getElem?_drop] at this
          · have hr : runOf (S.drop a) 0 (n - a) = m := by omega
            have := runOf_stop (S.drop a) 0 (n - a) (by omega)
            rwa [hr, List.getElem?_drop] at this
        · rw [if_neg h4] at h
          injection h with _ h
          injection h with _ h
          cases h
      · rw [if_neg h3] at h
        by_cases h4 : v = 0
        · rw [if_pos h4] at h
          injection h with e1 h
          injection h with e2 _
          exact .inr (.inr (.inr ⟨h1, h2, h3, h4, by omega, by omega⟩))
        · rw [if_neg h4] at h
          injection h with _ h
          injection h with _ h
          cases h
theorem onext_no {S : List UInt8} {n : Nat} {R allow : Int} {v : UInt8} (hv : S[n]? = some v) (h : (onext S n R allow).2.2 = false) :
    ¬ ahead (S.take n) 2 < n ∧ v ≠ 2 ∧ ((ahead (S.take n) 0 < n ∧ ¬ (ahead (S.take n) 0 : Int) < allow) ∨ (¬ ahead (S.take n) 0 < n ∧ v ≠ 0)) := by
  unfold onext at h
  simp only [hv, Option.some.injEq] at h
  split at h
  · cases h
  · rename_i h1
    split at h
    · cases h
    · rename_i h2
      refine ⟨h1, h2, ?_⟩
      split at h
      · rename_i h3
        split at h
        · cases h
        · rename_i h4
          exact .inl ⟨h3, h4⟩
      · rename_i h3
        split at h
        · cases h
        · rename_i h4
          exact .inr ⟨h3, h4⟩
section
variable {w w' : World} {p g n : Nat} {AD : Option Addr} {cD : Nat} {D S : List UInt8}
set_option maxRecDepth 100000 in
set_option maxHeartbeats 8000000 in
theorem rNext_no (h : IsRo w p g n AD cD D S) (room allow : Int) (hr0 : -9223372036854775808 ≤ room) (hr1 : room ≤ 9223372036854775807) (ha0 : -9223372036854775808 ≤ allow) (ha1 : allow ≤ 9223372036854775807) (hno : (onext S n (max room 0) allow).2.2 = false) :
    Calls Try.prog 14 #[.pointer (some ⟨p, 0, none⟩), .int .i64 room, .int .i64 allow] w (RNextPost p g n AD cD D w (0, [], false, false, S)) := by
  have c0 := wrote_cell h.cell 0 _ rfl
  have c1 := wrote_cell h.cell 1 _ rfl
  have hs := h.small
  have hl := h.lS
  have g1 := h.at_ n (by omega)
  obtain ⟨v, hv⟩ : ∃ v, S[n]'(by omega) = v := ⟨_, rfl⟩
  have hv' : S[n]? = some v := by rw [List.getElem?_eq_getElem (by omega), hv]
  rw [hv] at g1
  obtain ⟨vi, hvi⟩ : ∃ vi : Int, (v.toNat : Int) = vi := ⟨_, rfl⟩
  rw [hvi] at g1
  obtain ⟨n1, n2, n3⟩ := onext_no hv' hno
  obtain ⟨R, hR⟩ : ∃ R, R = max room 0 := ⟨_, rfl⟩
  have HM := fun ts t w => run_max2 (P := Try.prog) room 0 R hR ts t w
  have CL := Lib.hid (rfirst_any h 2 2 rfl)
  have CF := Lib.hid (rfirst_any h 0 0 rfl)
  have hlt : (S.take n).length = n := by simp; omega
  rw [fidb_no (by omega)] at CL
  have e2 : (vi == 2) = false := u8i hvi n2
  replace hR := Lib.hid hR
  have H := Lib.hid h
  rcases n3 with ⟨n3, n4⟩ | ⟨n3, n4⟩
  · rw [fidb_yes (by omega)] at CF
    obtain ⟨F, hF⟩ : ∃ F, ahead (S.take n) 0 = F := ⟨_, rfl⟩
    rw [hF] at CF n3 n4
    clear hF hlt hv hv' hvi hl hno n1 n2 h
    go_enter Try.func14, Try.ntmps14
    go_wp2_with fail
    refine CL.out.mono ?_
    rintro e w' ⟨rfl, rfl⟩
    go_wp2_with fail
    refine CF.out.mono ?_
    rintro e w' ⟨rfl, rfl⟩
    go_wp2_with fail
    exact bodyPost_ret (v := .tuple #[.int .i64 0, .slice none 0 0, .bool false, .bool false]) (by simp [results, Try.results14, go_sem]) rfl ⟨none, 0, rfl, World.ownsRow_nil _ _ _ _, H.out, Fr.refl _ _⟩
  · rw [fidb_no (by omega)] at CF
    have e0 : (vi == 0) = false := u8i hvi n4
    clear hlt hv hv' hvi hl hno n1 n2 n3 n4 h
    go_enter Try.func14, Try.ntmps14
    go_wp2_with fail
    refine CL.out.mono ?_
    rintro e w' ⟨rfl, rfl⟩
    go_wp2_with fail
    refine CF.out.mono ?_
    rintro e w' ⟨rfl, rfl⟩
    go_wp2_with fail
    exact bodyPost_ret (v := .tuple #[.int .i64 0, .slice none 0 0, .bool false, .bool false]) (by simp [results, Try.results14, go_sem]) rfl ⟨none, 0, rfl, World.ownsRow_nil _ _ _ _, H.out, Fr.refl _ _⟩
end
end Go.Proofs.Ytljpboikjhckiaa
