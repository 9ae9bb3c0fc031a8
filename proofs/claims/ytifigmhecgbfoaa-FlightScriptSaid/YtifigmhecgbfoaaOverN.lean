/- OverNums: writes over a row of the call's own, and no further. (As in chapter 11.) -/
import Derived.Test.YtifigmhecgbfoaaFrD
import Derived.Laws.OwnMore
namespace Go.Proofs.Ytifigmhecgbfoaa
open Go.RowKit

set_option maxRecDepth 100000 in
set_option maxHeartbeats 2000000 in
theorem overn_any (l : List Nat) (A : Option Addr) (n c B : Nat) (w : World) (hl : l.length = n) (hn : n ≤ 2000000) (h : w.ownsRow B 27 1 (.slice A n c) n (nv l)) :
    Calls Try.prog 19 #[.slice A n c] w fun e w' => e = .returned (.tuple #[]) ∧ Fr (fun q => (Value.slice A n c).ownBlock = some q) w w' := by
  have hlh := Lib.hid hl
  have hh := Lib.hid (own_base (base2 := 0) h (fun _ _ => Nat.zero_le _))
  clear hl h
  go_enter Try.func19, Try.ntmps19
  go_wp2_with fail
  go_loopw [2] (fun i wr => ∃ k : Nat, k ≤ n ∧ i = .int .i64 k ∧ Hid ((∃ xs : List Value, xs.length = n ∧ wr.ownsRow 0 27 1 (.slice A n c) n xs) ∧ Fr (fun q => (Value.slice A n c).ownBlock = some q) w wr)) (fun i _ => n - (intOf i).toNat)
  case atStart => exact ⟨0, by omega, rfl, Lib.hid ⟨⟨nv l, by rw [nv_length]; exact hlh.out, hh.out⟩, Fr.refl _ _⟩⟩
  case round =>
    obtain ⟨k, hk, rfl, HS⟩ := hrel
    obtain ⟨⟨xs, hx, o1⟩, F1⟩ := HS.out
    by_cases hkn : k < n
    · rename_i aa; clear aa
      obtain ⟨g, hA⟩ : ∃ g, A = some ⟨g, 0, none⟩ := by
        rcases own_cases o1 with ⟨_, h2, _⟩ | ⟨g, h1, _⟩
        · omega
        · exact ⟨g, h1⟩
      subst hA
      have z0 := o1.cellAt k (by omega)
      rw [List.getElem?_eq_getElem (by omega)] at z0
      obtain ⟨u, hu⟩ : ∃ u, some (xs[k]'(by omega)) = some u := ⟨_, rfl⟩
      rw [hu] at z0
      have z1 := o1.frozenAt k
      have hst := (o1.stored k (.int .u64 999)).1
      have HF : Hid (∀ W, W = wr.setCell ⟨g, k, none⟩ (.int .u64 999) → (∃ xs : List Value, xs.length = n ∧ W.ownsRow 0 27 1 (.slice (some ⟨g, 0, none⟩) n c) n xs) ∧ Fr (fun q => (Value.slice (some ⟨g, 0, none⟩) n c).ownBlock = some q) w W) := Lib.hid (by
        rintro W rfl
        exact ⟨⟨_, by rw [List.length_set]; exact hx, hst⟩, F1.trans ((Fr.refl (fun q => (Value.slice (some ⟨g, 0, none⟩) n c).ownBlock = some q) wr).setCell (p := ⟨g, k, none⟩) (fun _ => rfl) _)⟩)
      replace hu := Lib.hid hu
      clear HS hst F1 o1
      go_wp2_with fail
      go_roundw
      case rel => exact ⟨k + 1, by omega, by go_num, Lib.hid (HF.out _ rfl)⟩
      case measure => simp [intOf]; omega
    · have hk' : k = n := by omega
      replace o1 := Lib.hid o1
      replace F1 := Lib.hid F1
      clear HS
      go_wp2_with (at_builtin; refine Hid.out ?_)
      refine Lib.hid ?_
      refine wpList_app _ rfl _ _ 25 rfl 0 27 (.int .u64 0) 8 infoU Try.underlying25 rfl (.slice A n c) n xs rfl (o1.out.alloc _) (some ⟨wr.heap.size, 0, none⟩) 1 1 (nv [999]) rfl rfl (Rd.fresh_mark wr (nv [999]) 27 (0, 0)) (nv_one _) (by unfold maxLen; omega) (by omega) (Nat.zero_le _) ?_
      intro A6 c6 w6 o6 g6 _
      have F6 : Hid (Fr (fun q => (Value.slice A n c).ownBlock = some q) w w6) := Lib.hid (F1.out.trans (((Fr.refl _ wr).alloc _).grown g6 (fun _ hq _ => hq)))
      clear o6 g6
      go_wp2_with fail
      go_end0
      exact ⟨rfl, F6.out⟩
end Go.Proofs.Ytifigmhecgbfoaa
