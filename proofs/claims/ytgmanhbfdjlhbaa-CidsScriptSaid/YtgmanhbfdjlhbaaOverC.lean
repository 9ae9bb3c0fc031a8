/- OverBytes: writes over a row of the call's own, and no further. (As in chapter 11.) -/
import Derived.Test.YtgmanhbfdjlhbaaCrE
import Derived.Laws.OwnMore
namespace Go.Proofs.Ytgmanhbfdjlhbaa
open Go.RowKit

set_option maxRecDepth 100000 in
set_option maxHeartbeats 2000000 in
theorem over_any (l : List UInt8) (A : Option Addr) (n c B : Nat) (w : World) (hl : l.length = n) (hn : n ≤ 2000000) (h : w.ownsRow B 5 1 (.slice A n c) n (bv l)) :
    Calls Try.prog 15 #[.slice A n c] w fun e w' => e = .returned (.tuple #[]) ∧ Fr (fun q => (Value.slice A n c).ownBlock = some q) w w' := by
  have hlh := Lib.hid hl
  have hh := Lib.hid (own_base (base2 := 0) h (fun _ _ => Nat.zero_le _))
  clear hl h
  go_enter Try.func15, Try.ntmps15
  go_wp2_with fail
  go_loopw [2] (fun i wr => ∃ k : Nat, k ≤ n ∧ i = .int .i64 k ∧ Hid ((∃ xs : List Value, xs.length = n ∧ wr.ownsRow 0 5 1 (.slice A n c) n xs) ∧ Fr (fun q => (Value.slice A n c).ownBlock = some q) w wr)) (fun i _ => n - (intOf i).toNat)
  case atStart => exact ⟨0, by omega, rfl, Lib.hid ⟨⟨bv l, by rw [bv_length]; exact hlh.out, hh.out⟩, Fr.refl _ _⟩⟩
  case round =>
    obtain ⟨k, hk, rfl, HS⟩ := hrel
    obtain ⟨⟨xs, hx, o1⟩, F1⟩ := HS.out
    by_cases hkn : k < n
    · rename_i aa; clear aa
      obtain ⟨g, hA⟩ : ∃ g, A = some ⟨g, 0, none⟩ := by
        rcases own_cases o1 with ⟨_, h2, _⟩ | ⟨g, h1, _⟩
        · omega
        · exact ⟨g, h1⟩
      subst hA
      have z0 := o1.cellAt k (by omega)
      rw [List.getElem?_eq_getElem (by omega)] at z0
      obtain ⟨u, hu⟩ : ∃ u, some (xs[k]'(by omega)) = some u := ⟨_, rfl⟩
      rw [hu] at z0
      have z1 := o1.frozenAt k
      have hst := (o1.stored k (.int .u8 238)).1
      have HF : Hid (∀ W, W = wr.setCell ⟨g, k, none⟩ (.int .u8 238) → (∃ xs : List Value, xs.length = n ∧ W.ownsRow 0 5 1 (.slice (some ⟨g, 0, none⟩) n c) n xs) ∧ Fr (fun q => (Value.slice (some ⟨g, 0, none⟩) n c).ownBlock = some q) w W) := Lib.hid (by
        rintro W rfl
        exact ⟨⟨_, by rw [List.length_set]; exact hx, hst⟩, F1.trans ((Fr.refl (fun q => (Value.slice (some ⟨g, 0, none⟩) n c).ownBlock = some q) wr).setCell (p := ⟨g, k, none⟩) (fun _ => rfl) _)⟩)
      replace hu := Lib.hid hu
      clear HS hst F1 o1
      go_wp2_with fail
      go_roundw
      case rel => exact ⟨k + 1, by omega, by go_num, Lib.hid (HF.out _ rfl)⟩
      case measure => simp [intOf]; omega
    · have hk' : k = n := by omega
      replace o1 := Lib.hid o1
      replace F1 := Lib.hid F1
      clear HS
      go_wp2_with (at_builtin; refine Hid.out ?_)
      refine Lib.hid ?_
      refine wpList_app _ rfl _ _ 22 rfl 0 5 (.int .u8 0) 1 infoB Try.underlying22 rfl (.slice A n c) n xs rfl (o1.out.alloc _) (some ⟨wr.heap.size, 0, none⟩) 1 1 (bv [238]) rfl rfl (Rd.fresh_mark wr (bv [238]) 5 (0, 0)) (bv_one _) (by unfold maxLen; omega) (by omega) (Nat.zero_le _) ?_
      intro A6 c6 w6 o6 g6 _
      have F6 : Hid (Fr (fun q => (Value.slice A n c).ownBlock = some q) w w6) := Lib.hid (F1.out.trans (((Fr.refl _ wr).alloc _).grown g6 (fun _ hq _ => hq)))
      clear o6 g6
      go_wp2_with fail
      go_end0
      exact ⟨rfl, F6.out⟩
end Go.Proofs.Ytgmanhbfdjlhbaa
