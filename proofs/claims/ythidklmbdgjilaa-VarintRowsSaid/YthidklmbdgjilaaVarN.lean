/- VarintRows returns true at every slice of numbers of 64 bits; nothing old turns. -/
import Derived.Test.YthidklmbdgjilaaVarJ
namespace Go.Proofs.Ythidklmbdgjilaa
open Go.RowKit

def rows (ns : List Int) : List UInt8 := ns.flatMap vput
theorem rows_take_succ (ns : List Int) (k : Nat) (hk : k < ns.length) : rows (ns.take (k + 1)) = rows (ns.take k) ++ vput ns[k] := by
  unfold rows; rw [List.take_succ_eq_append_getElem hk, List.flatMap_append]; simp only [List.flatMap_cons, List.flatMap_nil, List.append_nil]
theorem rows_drop (ns : List Int) (k : Nat) (hk : k < ns.length) : rows (ns.drop k) = vput ns[k] ++ rows (ns.drop (k + 1)) := by
  unfold rows; rw [List.drop_eq_getElem_cons hk, List.flatMap_cons]
theorem vput_le (n : Int) : (vput n).length ≤ 8 := by rw [vput_length]; exact vl_bd n
theorem rows_take_le (ns : List Int) (k : Nat) : (rows (ns.take k)).length ≤ 8 * k := by
  induction k with
  | zero => simp [rows]
  | succ k ih =>
    by_cases hk : k < ns.length
    · rw [rows_take_succ ns k hk, List.length_append]; have := vput_le ns[k]; omega
    · rw [List.take_of_length_le (by omega)] at ih ⊢; omega
theorem rows_drop_le (ns : List Int) (j : Nat) : ∀ k, k + j = ns.length → (rows (ns.drop k)).length ≤ 8 * j := by
  induction j with
  | zero => intro k hk; rw [List.drop_of_length_le (by omega)]; simp [rows]
  | succ j ih =>
    intro k hk
    rw [rows_drop ns k (by omega), List.length_append]; have := vput_le (ns[k]'(by omega)); have := ih (k + 1) (by omega); omega

set_option maxHeartbeats 2000000 in
theorem rows_any (ns : List Int) (A : Option Addr) (c : Nat) (w : World) (hr : Rd w A (ns.map (Value.int .u64))) (hl : ns.length ≤ 9223372036854775807) (hw : ∀ n ∈ ns, 0 ≤ n ∧ n ≤ 18446744073709551615) :
    Calls Try.prog 7 #[.slice A ns.length c] w fun e w' => e = .returned (.bool true) ∧ Below w.heap.size w w' := by
  by_cases hs : 20 < ns.length
  · go_enter Try.func7, Try.ntmps7
    go_wp2_with (go_at_call 8; refine (awake_any _).mono ?_; rintro e w1 ⟨rfl, hb⟩)
    go_ret
    exact ⟨rfl, hb⟩
  have HW := Lib.hid hw
  clear hw
  go_enter Try.func7, Try.ntmps7
  go_wp2_with fail
  go_loopw [3, 4, 5] (fun v s i wr => ∃ (k : Nat) (A' : Option Addr) (c' : Nat), k ≤ ns.length ∧ i = .int .i64 k ∧ s = .int .i64 (rows (ns.take k)).length ∧ v = .slice A' (rows (ns.take k)).length c' ∧ Rd wr A' (bv (rows (ns.take k))) ∧ (rows (ns.take k)).length ≤ c' ∧ c' ≤ 9223372036854775807 ∧ Fr NoS w wr)
    (fun _ _ i _ => ns.length - (intOf i).toNat)
  case atStart => exact ⟨0, none, 0, by omega, rfl, rfl, rfl, Rd.nil _ _, by simp [rows], by omega, Fr.refl _ _⟩
  case round =>
    obtain ⟨k, A2, c2, hk, rfl, rfl, rfl, hrd, hc2, hcc2, F⟩ := hrel
    have hbd := rows_take_le ns k
    by_cases hkl : k < ns.length
    · obtain ⟨b, off, rfl, g⟩ := (hr.fr F (fun _ _ _ x => x)).at_ (k := k) (by simpa using hkl)
      rw [List.getElem_map] at g
      have hx := HW.out ns[k] (List.getElem_mem hkl)
      have HT := Lib.hid (rows_take_succ ns k hkl)
      have hv8 := vput_le ns[k]
      obtain ⟨x, hxe⟩ : ∃ x, ns[k] = x := ⟨_, rfl⟩
      rw [hxe] at g hx HT hv8
      clear hxe
      obtain ⟨acc, hacc⟩ : ∃ acc, rows (ns.take k) = acc := ⟨_, rfl⟩
      rw [hacc] at hrd hc2 hbd HT ⊢
      clear hacc
      go_wp2_with fail
      refine (vput_any x acc A2 c2 _ hrd (by omega) hx.1 hx.2).mono ?_
      rintro e w3 ⟨A3, c3, rfl, ho3, hb3⟩
      have g3 := hb3.cell (p := ⟨b, off + k, none⟩) (World.block_lt_of_cell? _ _ g)
      rw [g] at g3
      go_wp2_with fail
      refine (vlenp_any x _ hx.1 hx.2).mono ?_
      rintro e w4 ⟨rfl, k4, rfl⟩
      have hc3 := RetS.cap ho3
      have R3 := Rd.of_own ho3
      have hlen : ((acc.length : Int) + ((vput x).length : Int)) = ((acc ++ vput x).length : Int) := by rw [List.length_append]; rfl
      have HLN := Lib.hid hlen
      clear hlen ho3
      go_wp2_with fail
      have F3 : Fr NoS w (w3.drewN k4) := (F.trans (Fr.of_below hb3 _)).drewN _
      go_roundw
      case rel => exact ⟨k + 1, A3, c3, by omega, by go_num, by rw [HT.out]; exact congrArg (Value.int .i64) HLN.out, by rw [HT.out, List.length_append], by rw [HT.out]; exact R3, by rw [HT.out]; exact hc3.1, hc3.2, F3⟩
      case measure => simp [intOf]; omega
    · have hk' : k = ns.length := by omega
      subst hk'
      rw [List.take_length] at hrd hc2 ⊢
      have hbl := rows_drop_le ns ns.length 0 (by omega)
      rw [List.drop_zero] at hbl
      go_wp2_with fail
      go_loop [3, 6] (fun v i => ∃ (k : Nat) (A' : Option Addr) (c' : Nat), k ≤ ns.length ∧ i = .int .i64 k ∧ v = .slice A' (rows (ns.drop k)).length c' ∧ Rd wr A' (bv (rows (ns.drop k))) ∧ (rows (ns.drop k)).length ≤ c' ∧ c' ≤ 9223372036854775807)
        (fun _ i => ns.length - (intOf i).toNat)
      case atStart => exact ⟨0, A2, c2, by omega, rfl, rfl, hrd, hc2, hcc2⟩
      case round =>
        clear hrd hc2 hcc2
        obtain ⟨k, A3, c3, hk, rfl, rfl, hrd, hc3, hcc3⟩ := hrel
        have hbd := rows_drop_le ns (ns.length - k) k (by omega)
        by_cases hkl : k < ns.length
        · obtain ⟨b, off, rfl, g⟩ := (hr.fr F (fun _ _ _ x => x)).at_ (k := k) (by simpa using hkl)
          rw [List.getElem_map] at g
          have hx := HW.out ns[k] (List.getElem_mem hkl)
          have HT := Lib.hid (rows_drop ns k hkl)
          have hv8 := vput_le ns[k]
          obtain ⟨x, hxe⟩ : ∃ x, ns[k] = x := ⟨_, rfl⟩
          rw [hxe] at g hx HT hv8
          clear hxe
          by_cases hbig : 4611686018427387903 < x
          · have HT2 : rows (ns.drop k) = rows (ns.drop (k + 1)) := by rw [HT.out, vput_zero hbig]; rfl
            have R := And.intro hrd (And.intro hc3 hcc3)
            rw [HT2] at R ⊢
            clear hrd hc3 hcc3 HT2 hbd
            go_wp2_with fail
            go_round
            case rel => exact ⟨k + 1, A3, c3, by omega, by go_num, rfl, R.1, R.2.1, R.2.2⟩
            case measure => simp [intOf]; omega
          · have HG := Lib.hid (vget_vput x (rows (ns.drop (k + 1))) hx.1 (by omega))
            have hm1 := vput_many x (by omega)
            obtain ⟨p, hpe⟩ : ∃ p, vput x = p := ⟨_, rfl⟩
            obtain ⟨tl, htl⟩ : ∃ tl, rows (ns.drop (k + 1)) = tl := ⟨_, rfl⟩
            rw [hpe] at HT HG hm1 hv8
            rw [htl] at HT HG
            rw [← HT.out] at HG
            obtain ⟨rs, hrs⟩ : ∃ rs, rows (ns.drop k) = rs := ⟨_, rfl⟩
            rw [hrs] at hrd hc3 hbd HT HG ⊢
            have HTL := Lib.hid htl
            clear htl hpe hrs
            have hp1 : 1 ≤ p.length := by omega
            have hpl : rs.length = p.length + tl.length := by rw [HT.out]; exact List.length_append
            have hple : p.length ≤ rs.length := by omega
            have HPL := Lib.hid (show tl.length = rs.length - p.length from by omega)
            have hrd2 := hrd.drop (k := p.length) (cap := c3) (by simp; omega) (by simpa using hc3)
            rw [show (bv rs).drop p.length = bv tl from by rw [HT.out, bv_append]; simp [bv]] at hrd2
            clear hm1 hpl
            have hxx : (x != x) = false := by simp
            have hlt1 : decide (p.length < 1) = false := decide_eq_false (by omega)
            have hlt2 : decide (rs.length < p.length) = false := decide_eq_false (by omega)
            go_wp2_with fail
            refine (get_any rs A3 c3 _ hrd hc3 (by omega) hcc3).mono ?_
            rintro e w4 ⟨rfl, rfl⟩
            rw [HG.out]
            simp only [vtup]
            by_cases hcp : c3 = p.length
            · subst hcp
              rw [if_pos rfl] at hrd2
              have hr0 : rs.length = p.length := by omega
              go_wp2_with fail
              go_round
              case rel => exact ⟨k + 1, A3, 0, by omega, by go_num, by rw [HTL.out, HPL.out, hr0, Nat.sub_self], by rw [HTL.out]; exact hrd2, by rw [HTL.out, HPL.out]; omega, by omega⟩
              case measure => simp [intOf]; omega
            · rw [if_neg hcp] at hrd2
              have R := hrd2
              clear hrd2 hrd
              go_wp2_with fail
              go_round
              case rel => exact ⟨k + 1, _, c3 - p.length, by omega, by go_num, by rw [HTL.out, HPL.out], by rw [HTL.out]; exact R, by rw [HTL.out, HPL.out]; omega, by omega⟩
              case measure => simp [intOf]; omega
        · have hk' : k = ns.length := by omega
          subst hk'
          have hnil : rows (ns.drop ns.length) = [] := by rw [List.drop_length]; rfl
          rw [hnil] at hrd hc3 ⊢
          clear hnil hbd
          rw [List.length_nil]
          go_wp2_with fail
          refine (get_any [] A3 c3 _ hrd hc3 (by simp) hcc3).mono ?_
          rintro e w4 ⟨rfl, rfl⟩
          simp only [vget, vtup]
          go_wp2_with fail
          refine (awake_any _).mono ?_
          rintro e w8 ⟨rfl, hb8⟩
          go_wp2_with fail
          go_ret
          exact ⟨rfl, Fr.below (F.trans (Fr.of_below hb8 _))⟩
end Go.Proofs.Ythidklmbdgjilaa
