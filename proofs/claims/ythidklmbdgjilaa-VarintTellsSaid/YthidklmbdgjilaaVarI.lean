/- VarintTells returns true at every number of 64 bits and all two slices of bytes; nothing old turns. -/
import Derived.Test.YthidklmbdgjilaaVarH
namespace Go.Proofs.Ythidklmbdgjilaa
open Go.RowKit

set_option maxHeartbeats 1000000 in
theorem tells_any (n : Int) (l m : List UInt8) (A1 A2 : Option Addr) (c1 c2 : Nat) (w : World) (h0 : 0 ≤ n) (hn : n ≤ 18446744073709551615) (h1 : Rd w A1 (bv l)) (h2 : Rd w A2 (bv m))
    (hl : l.length ≤ 9223372036854775807) (hc2 : m.length ≤ c2) (hcc2 : c2 ≤ 9223372036854775807) :
    Calls Try.prog 3 #[.int .u64 n, .slice A1 l.length c1, .slice A2 m.length c2] w fun e w' => e = .returned (.bool true) ∧ Below w.heap.size w w' := by
  by_cases hs : 40 < l.length ∨ 40 < m.length
  · go_enter Try.func3, Try.ntmps3
    by_cases hs1 : 40 < l.length
    · go_wp2_with (go_at_call 8; refine (awake_any _).mono ?_; rintro e w1 ⟨rfl, hb⟩)
      go_ret
      exact ⟨rfl, hb⟩
    · have hs2 : 40 < m.length := by omega
      clear hs
      go_wp2_with (go_at_call 8; refine (awake_any _).mono ?_; rintro e w1 ⟨rfl, hb⟩)
      go_ret
      exact ⟨rfl, hb⟩
  · have hs1 : l.length ≤ 40 := by omega
    have hs2 : m.length ≤ 40 := by omega
    clear hs
    obtain ⟨g, hg⟩ : ∃ g, vget m = g := ⟨_, rfl⟩
    have HG := Lib.hid hg
    clear hg
    have hvb := vl_bd n
    go_enter Try.func3, Try.ntmps3
    go_wp2_with fail
    refine (get_any m _ c2 _ h2 hc2 (by omega) hcc2).mono ?_
    rintro e w' ⟨rfl, rfl⟩
    rw [HG.out]
    simp only [vtup]
    go_wp2_with fail
    refine (refget_any m _ c2 _ h2 hc2 (by omega) hcc2).mono ?_
    rintro e w' ⟨rfl, rfl⟩
    rw [HG.out]
    simp only [vtup]
    go_wp2_with fail
    refine (vlen_any n _ h0 hn).mono ?_
    rintro e w3 ⟨rfl, k, rfl⟩
    go_wp2_with fail
    refine (reflen_any n _ h0 hn).mono ?_
    rintro e w3 ⟨rfl, rfl⟩
    go_wp2_with fail
    refine (copied_any l _ c1 _ (h1.drewN k) (by omega)).mono ?_
    rintro e w4 ⟨A4, c4, rfl, ho4, hb4⟩
    have F4 : Fr NoS w w4 := ((Fr.refl _ w).drewN k).trans (Fr.of_below hb4 _)
    go_wp2_with fail
    refine (put_any n l _ c4 _ (Rd.of_own ho4) (by omega) h0 hn).mono ?_
    rintro e w5 ⟨A5, c5, rfl, ho5, hb5⟩
    go_wp2_with fail
    refine (refput_any n l _ c1 _ ((h1.fr F4 (fun _ _ _ x => x)).below hb5) (by omega) h0 hn).mono ?_
    rintro e w6 ⟨A6, c6, rfl, ho6, hb6⟩
    go_wp2_with fail
    have L5 : (l ++ vbytes n (vl n)).length = l.length + vl n := by simp [vbytes_length]
    rw [← L5]
    refine (same_any (l ++ vbytes n (vl n)) (l ++ vbytes n (vl n)) _ _ _ _ _ ?_ ?_ (by omega) (by omega)).mono ?_
    · exact (Rd.of_own ho5).below hb6
    · exact Rd.of_own ho6
    rintro e w7 ⟨rfl, k7, rfl⟩
    rw [decide_eq_true rfl, L5]
    clear L5
    go_wp2_with fail
    refine (awake_any _).mono ?_
    rintro e w8 ⟨rfl, hb8⟩
    go_wp2_with fail
    go_ret
    exact ⟨rfl, Fr.below ((((F4.trans (Fr.of_below hb5 _)).trans (Fr.of_below hb6 _)).drewN k7).trans (Fr.of_below hb8 _))⟩
end Go.Proofs.Ythidklmbdgjilaa
