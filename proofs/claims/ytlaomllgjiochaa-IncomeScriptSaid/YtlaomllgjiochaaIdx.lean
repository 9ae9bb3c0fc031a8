/- slices.Index of false in a list of bools: how many true ones stand ahead; it turns nothing. -/
import Derived.Test.YtlaomllgjiochaaOwn
namespace Go.Proofs.Ytlaomllgjiochaa
open Go.RowKit

def fidx (l : List Bool) : Int := if (l.takeWhile id).length < l.length then ((l.takeWhile id).length : Int) else -1

set_option maxHeartbeats 1000000 in
theorem index_any (l : List Bool) (A : Option Addr) (c : Nat) (w : World) (hr : Rd w A (bo l)) (hl : l.length ≤ 140737488355328) :
    Calls Try.prog 30 #[.slice A l.length c, .bool false] w fun e w' => e = .returned (.int .i64 (fidx l)) ∧ w = w' := by
  go_enter Try.func30, Try.ntmps30
  go_wp2
  go_loop [8, 5] (fun i _ => ∃ k : Nat, k ≤ l.length ∧ i = .int .i64 k ∧ Hid (∀ j, j < k → l[j]? = some true)) (fun i _ => l.length - (intOf i).toNat)
  case atStart => exact ⟨0, by omega, rfl, Lib.hid (fun j hj => absurd hj (by omega))⟩
  case round =>
    obtain ⟨k, hk, rfl, HT⟩ := hrel
    by_cases hkl : k < l.length
    · obtain ⟨b1, o1, rfl, g1⟩ := hr.at_ (k := k) (by simpa using hkl)
      simp only [bo, List.getElem_map] at g1
      obtain ⟨v, hv⟩ : ∃ v, l[k] = v := ⟨_, rfl⟩
      have hv' : Hid (l[k]? = some v) := Lib.hid (by rw [List.getElem?_eq_getElem hkl, hv])
      rw [hv] at g1
      clear hv
      cases v
      · go_wp2
        go_ret
        have := tw_len l k HT.out (by rw [hv'.out]; simp)
        have e : fidx l = k := by unfold fidx; rw [this, if_pos hkl]
        exact ⟨ret_int e.symm, rfl⟩
      · go_wp2
        go_round
        case rel => exact ⟨k + 1, by omega, by go_num, Lib.hid (fun j hj => by
            rcases Nat.lt_or_ge j k with h | h
            · exact HT.out j h
            · have : j = k := by omega
              subst this; exact hv'.out)⟩
        case measure => simp [intOf]; omega
    · have hk' : k = l.length := by omega
      go_wp2
      go_ret
      have := tw_len l k HT.out (by rw [List.getElem?_eq_none (by omega)]; simp)
      have e : fidx l = -1 := by unfold fidx; rw [this, if_neg (by omega)]
      exact ⟨ret_int e.symm, rfl⟩
end Go.Proofs.Ytlaomllgjiochaa
