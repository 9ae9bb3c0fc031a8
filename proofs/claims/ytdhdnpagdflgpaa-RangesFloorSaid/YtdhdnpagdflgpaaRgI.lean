/- RangesFloor: it is true at every input. -/
import Derived.Test.YtdhdnpagdflgpaaRgH
namespace Go.Proofs.Ytdhdnpagdflgpaa
open Go.RowKit

set_option maxRecDepth 100000 in
set_option maxHeartbeats 4000000 in
theorem floor_any (most many : Int) (w : World) :
    Calls Try.prog 4 #[.int .i64 most, .int .i64 many] w fun e w' => e = .returned (.bool true) ∧ Below w.heap.size w w' := by
  obtain ⟨r, hr, L1⟩ := low_ex most 8 (by omega) (by omega)
  obtain ⟨m, hm, L2⟩ := low_ex many 41 (by omega) (by omega)
  obtain ⟨mo, hmo⟩ : ∃ mo, 1 + r = mo := ⟨_, rfl⟩
  have hmoI : 1 + (r : Int) = (mo : Int) := by omega
  have hmo1 : 1 ≤ mo := by omega
  have hmo8 : mo ≤ 8 := by omega
  replace L1 := Lib.hid L1
  replace L2 := Lib.hid L2
  clear hmo
  go_enter Try.func4, Try.ntmps4
  go_wp2_with fail
  refine (L1.out _).mono ?_
  rintro e w1 ⟨rfl, rfl⟩
  go_wp2_with fail
  refine (L2.out _).mono ?_
  rintro e w1 ⟨rfl, rfl⟩
  clear L1 L2
  go_wp2_with fail
  refine (new_at (fun k => k < w.heap.size) w (fun _ h => h) mo hmo1 (by omega)).mono ?_
  rintro e w1 ⟨p, rfl, H, hb⟩
  rw [flS_zero] at H
  replace H := Lib.hid H
  replace hb := Lib.hid hb
  clear hmoI hr
  go_wp2_with fail
  go_loopw [6] (fun i wr => ∃ k : Nat, k ≤ m ∧ i = .int .i64 k ∧ Hid (SetAt (fun k => k < w.heap.size) wr p (flS mo k)) ∧ Hid (Below w.heap.size w wr)) (fun i _ => m - (intOf i).toNat)
  case atStart => exact ⟨0, by omega, rfl, H, hb⟩
  case round =>
    clear H hb
    obtain ⟨k, hk, rfl, H, hb⟩ := hrel
    by_cases hkm : k < m
    · obtain ⟨k3, hk3⟩ : ∃ k3, 3 * k = k3 := ⟨_, rfl⟩
      have hkI : 3 * (k : Int) = (k3 : Int) := by omega
      have hk3b : k3 ≤ 200 := by omega
      have q1 : Hid ((flS mo k).has k3 = false) := Lib.hid (by rw [← hk3]; exact flS_new mo k)
      have q2 : Hid ((flS mo k).add k3 = flS mo (k + 1)) := Lib.hid (by rw [← hk3]; exact flS_add mo k hmo1)
      clear hk3
      go_wp2_with fail
      refine (add_at _ H.out k3 (by omega) q1.out q2.out).mono ?_
      rintro e w2 ⟨rfl, H2, F2⟩
      replace hb : Hid (Below w.heap.size w w2) := Lib.hid (fp_below hb.out hb.out.size (fun _ h => h) F2)
      replace H2 := Lib.hid H2
      clear H F2
      go_wp2_with fail
      go_roundw
      case rel => exact ⟨k + 1, by omega, by go_num, H2, hb⟩
      case measure => simp [intOf]; omega
    · have hk' : k = m := by omega
      subst hk'
      obtain ⟨q, hq⟩ : ∃ q, min mo k = q := ⟨_, rfl⟩
      have hMin := fun (ts : Array TypeId) (t : TypeId) (w : World) => run_min2 (P := Try.prog) (mo : Int) (k : Int) (q : Int) (by omega) ts t w
      have hql : (flS mo k).l.length = q := by rw [flS_len, hq]
      obtain ⟨l, hl⟩ : ∃ l, (flS mo k).l = l := ⟨_, rfl⟩
      rw [hl] at hql
      have hqq : ((q : Int) != (q : Int)) = false := by simp
      replace hl := Lib.hid hl
      have hqh := Lib.hid hql
      clear hkm hk hq
      go_wp2_with fail
      refine (list_at l H.out hl.out).mono ?_
      rintro e w2 ⟨A2, c2, rfl, -, H2, b2⟩
      replace hb : Hid (Below w.heap.size w w2) := Lib.hid (hb.out.trans (b2.mono hb.out.size))
      replace H2 := Lib.hid H2
      clear H b2
      rw [hql]
      clear hql
      go_wp2_with fail
      clear hqq hMin
      go_loopw [8] (fun i wr => ∃ j : Nat, j ≤ k ∧ i = .int .i64 j ∧ Hid (SetAt (fun k => k < w.heap.size) wr p (flS mo k)) ∧ Hid (Below w.heap.size w wr)) (fun i _ => k - (intOf i).toNat)
      case atStart => exact ⟨0, by omega, rfl, H2, hb⟩
      case round =>
        clear H2 hb
        obtain ⟨j, hj, rfl, H, hb⟩ := hrel
        by_cases hjk : j < k
        · obtain ⟨j3, hj3⟩ : ∃ j3, 3 * j = j3 := ⟨_, rfl⟩
          have hjI : 3 * (j : Int) = (j3 : Int) := by omega
          have hj3b : j3 ≤ 200 := by omega
          have q1 : Hid ((flS mo k).has j3 = true) := Lib.hid (by rw [← hj3]; exact flS_has mo k j hmo1 hjk)
          by_cases h2 : 0 < j ∧ j + mo < k
          · obtain ⟨h3, h4⟩ := h2
            have b1 : decide ((j : Int) < (k : Int) - (mo : Int)) = true := decide_eq_true (by omega)
            obtain ⟨j4, hj4⟩ : ∃ j4, j3 - 1 = j4 := ⟨_, rfl⟩
            have hj4I : (j3 : Int) - 1 = (j4 : Int) := by omega
            have hj31 : 1 ≤ j3 := by omega
            have hj4b : j4 ≤ 200 := by omega
            have q2 : Hid ((flS mo k).has j4 = true) := Lib.hid (by rw [← hj4, ← hj3]; exact flS_low mo k j h3 h4)
            clear hj3 hj4
            go_wp2_with fail
            refine (has_at true H.out j3 q1.out).mono ?_
            rintro e w3 ⟨rfl, H3, b3⟩
            replace hb : Hid (Below w.heap.size w w3) := Lib.hid (hb.out.trans (b3.mono hb.out.size))
            replace H3 := Lib.hid H3
            clear H b3
            go_wp2_with fail
            refine (addno_at H3.out j3 (.inr ⟨by omega, q1.out⟩)).mono ?_
            rintro e w4 ⟨rfl, H4, b4⟩
            replace hb : Hid (Below w.heap.size w w4) := Lib.hid (hb.out.trans (b4.mono hb.out.size))
            replace H4 := Lib.hid H4
            clear H3 b4
            go_wp2_with fail
            refine (addno_at H4.out j4 (.inr ⟨by omega, q2.out⟩)).mono ?_
            rintro e w5 ⟨rfl, H5, b5⟩
            replace hb : Hid (Below w.heap.size w w5) := Lib.hid (hb.out.trans (b5.mono hb.out.size))
            replace H5 := Lib.hid H5
            clear H4 b5
            go_wp2_with fail
            refine (has_at true H5.out j4 q2.out).mono ?_
            rintro e w6 ⟨rfl, H6, b6⟩
            replace hb : Hid (Below w.heap.size w w6) := Lib.hid (hb.out.trans (b6.mono hb.out.size))
            replace H6 := Lib.hid H6
            clear H5 b6
            go_wp2_with fail
            go_roundw
            case rel => exact ⟨j + 1, by omega, by go_num, H6, hb⟩
            case measure => simp [intOf]; omega
          · have b0 : (decide (0 < j) = false ∧ decide ((0 : Int) < (j : Int)) = false) ∨ (0 < j ∧ decide ((j : Int) < (k : Int) - (mo : Int)) = false) := by
              rcases Nat.eq_zero_or_pos j with h5 | h5
              · exact .inl ⟨decide_eq_false (by omega), decide_eq_false (by omega)⟩
              · exact .inr ⟨h5, decide_eq_false (by omega)⟩
            clear hj3 h2
            rcases b0 with ⟨b0, b1⟩ | ⟨b0, b1⟩
            · skip
              go_wp2_with fail
              refine (has_at true H.out j3 q1.out).mono ?_
              rintro e w3 ⟨rfl, H3, b3⟩
              replace hb : Hid (Below w.heap.size w w3) := Lib.hid (hb.out.trans (b3.mono hb.out.size))
              replace H3 := Lib.hid H3
              clear H b3
              go_wp2_with fail
              refine (addno_at H3.out j3 (.inr ⟨by omega, q1.out⟩)).mono ?_
              rintro e w4 ⟨rfl, H4, b4⟩
              replace hb : Hid (Below w.heap.size w w4) := Lib.hid (hb.out.trans (b4.mono hb.out.size))
              replace H4 := Lib.hid H4
              clear H3 b4
              go_wp2_with fail
              go_roundw
              case rel => exact ⟨j + 1, by omega, by go_num, H4, hb⟩
              case measure => simp [intOf]; omega
            · go_wp2_with fail
              refine (has_at true H.out j3 q1.out).mono ?_
              rintro e w3 ⟨rfl, H3, b3⟩
              replace hb : Hid (Below w.heap.size w w3) := Lib.hid (hb.out.trans (b3.mono hb.out.size))
              replace H3 := Lib.hid H3
              clear H b3
              go_wp2_with fail
              refine (addno_at H3.out j3 (.inr ⟨by omega, q1.out⟩)).mono ?_
              rintro e w4 ⟨rfl, H4, b4⟩
              replace hb : Hid (Below w.heap.size w w4) := Lib.hid (hb.out.trans (b4.mono hb.out.size))
              replace H4 := Lib.hid H4
              clear H3 b4
              go_wp2_with fail
              go_roundw
              case rel => exact ⟨j + 1, by omega, by go_num, H4, hb⟩
              case measure => simp [intOf]; omega
        · go_wp2_with fail
          refine (awake_any _).mono ?_
          rintro e wf ⟨rfl, hbf⟩
          go_wp2_with fail
          go_ret
          exact ⟨rfl, hb.out.trans (hbf.mono hb.out.size)⟩
end Go.Proofs.Ytdhdnpagdflgpaa
