/- FlightLate: it is true at every input. -/
import Derived.Test.YtifigmhecgbfoaaFlN
import Derived.Test.YtifigmhecgbfoaaLow
namespace Go.Proofs.Ytifigmhecgbfoaa
open Go.RowKit

def cbit (counts : Int) (k : Nat) : Bool := bits BinOp.and IntKind.i64 (counts / 2 ^ k) 1 == 1
theorem max_one (q : Nat) (h : 1 ≤ q) (t : Nat) : qlost false 0 (t : Int) (max (q : Int) 1) = lateQ q t := rfl

set_option maxRecDepth 100000 in
set_option maxHeartbeats 16000000 in
theorem late_any (many counts pto tick : Int) (w : World) :
    Calls Try.prog 3 #[.int .i64 many, .int .i64 counts, .int .i64 pto, .int .i64 tick] w fun e w' => e = .returned (.bool true) ∧ Below w.heap.size w w' := by
  obtain ⟨m, hm, L1⟩ := low_ex many 21 (by omega) (by omega)
  obtain ⟨r, hr, L2⟩ := low_ex pto 60 (by omega) (by omega)
  obtain ⟨t, ht, L3⟩ := low_ex tick 100 (by omega) (by omega)
  obtain ⟨q, hq⟩ : ∃ q : Nat, 1 + r = q := ⟨_, rfl⟩
  have hq1 : 1 + (r : Int) = (q : Int) := by omega
  have hq0 : 1 ≤ q := by omega
  have hq6 : q ≤ 60 := by omega
  replace L1 := Lib.hid L1
  replace L2 := Lib.hid L2
  replace L3 := Lib.hid L3
  obtain ⟨cs, hcs⟩ : ∃ cs, cbit counts = cs := ⟨_, rfl⟩
  go_enter Try.func3, Try.ntmps3
  go_wp2_with fail
  refine (L1.out _).mono ?_
  rintro e w1 ⟨rfl, rfl⟩
  go_wp2_with fail
  refine (L2.out _).mono ?_
  rintro e w1 ⟨rfl, rfl⟩
  go_wp2_with fail
  refine (L3.out _).mono ?_
  rintro e w1 ⟨rfl, rfl⟩
  clear L1 L2 L3
  go_wp2_with fail
  refine (new_at w.heap.size w w (Below.refl _ w) (Nat.le_refl _)).mono ?_
  rintro e w1 ⟨p, rfl, H1, -⟩
  rw [lateF_zero cs] at H1
  replace H1 := Lib.hid H1
  clear hr hq hq1
  go_wp2_with fail
  go_loopw [10, 11, 12] (fun v i _ wr => ∃ k : Nat, k ≤ m ∧ i = .int .i64 k ∧ ∃ A c, v = .slice A (lateW cs q t k).length c ∧ Hid (wr.ownsRow w.heap.size 27 1 (.slice A (lateW cs q t k).length c) (lateW cs q t k).length (nv (lateW cs q t k))) ∧ Hid (FlAt w.heap.size w wr p (lateF cs k))) (fun _ i _ _ => m - (intOf i).toNat)
  case atStart => exact ⟨0, by omega, rfl, none, 0, rfl, Lib.hid (World.ownsRow_nil _ _ _ _), H1⟩
  case round =>
    clear H1
    obtain ⟨k, hk, rfl, A, c, rfl, HO, H⟩ := hrel
    by_cases hkm : k < m
    · have hcase : cs k = true ∨ cs k = false := by cases cs k <;> simp
      have hb : (bits BinOp.and IntKind.i64 (counts / 2 ^ k) 1 == 1) = cs k := by rw [← hcs]; rfl
      obtain ⟨V, hV⟩ : ∃ V, cs k = V := ⟨_, rfl⟩
      rw [hV] at hb
      have hlk : Hid ((lateW cs q t k).length ≤ k) := Lib.hid (lateW_len cs q t k)
      have hsucc : fsent (lateF cs k) k k V = lateF cs (k + 1) := by rw [← hV]; exact lateF_succ cs k
      replace hsucc := Lib.hid hsucc
      clear hcase
      by_cases hw : (V && decide (k + q ≤ t)) = true
      · rw [Bool.and_eq_true] at hw
        obtain ⟨rfl, hkt⟩ := hw
        have hkt1 : k + q ≤ t := of_decide_eq_true hkt
        have hkt2 : decide ((k : Int) + (q : Int) ≤ (t : Int)) = true := decide_eq_true (by omega)
        have hW : Hid (lateW cs q t (k + 1) = lateW cs q t k ++ [k]) := Lib.hid (lateW_yes cs q t k (by rw [hV, hkt]; rfl))
        replace hV := Lib.hid hV
        go_wp2_with fail
        refine (sent_at (lateF cs (k + 1)) H.out k k true (by simp [lateF]; omega) (by omega) (lateF_ok cs k (by omega)) hsucc.out).mono ?_
        rintro e w2 ⟨rfl, H2, K2⟩
        have O2 := Lib.hid (K2.own HO.out rfl rfl)
        have hB2 : Hid (w.heap.size ≤ w2.heap.size) := Lib.hid (by obtain ⟨_, _, _, _, _, x⟩ := H2; exact x)
        replace H2 := Lib.hid H2
        clear H HO K2
        go_wp2_with (at_builtin; refine wpList_app _ rfl _ _ 25 rfl w.heap.size 27 (.int .u64 0) 8 infoU Try.underlying25 rfl (.slice A (lateW cs q t k).length c) (lateW cs q t k).length (nv (lateW cs q t k)) rfl (O2.out.alloc _) _ 1 _ [.int .u64 k] rfl rfl (Rd.fresh_mark _ [.int .u64 k] _ _) (one_int _ _) (by have := hlk.out; unfold maxLen; omega) (by have := hlk.out; omega) (by have := hB2.out; simp; omega) ?_; intro A' c' w3 ho3 hg3 _; have H3 := Lib.hid (H2.out.grown (Nat.le_refl _) O2.out rfl rfl hg3); replace ho3 := Lib.hid ho3; clear H2 O2 hg3)
        go_roundw
        case rel =>
          refine ⟨k + 1, by omega, by go_num, A', c', ?_, ?_, H3⟩
          · rw [hW.out, List.length_append]; rfl
          · have := ho3.out
            rw [hW.out, List.length_append, nv_append]
            exact Lib.hid this
        case measure => simp [intOf]; omega
      · have hw' : (V && decide (k + q ≤ t)) = false := by simpa using hw
        have hW : Hid (lateW cs q t (k + 1) = lateW cs q t k) := Lib.hid (lateW_no cs q t k (by rw [hV]; exact hw'))
        replace hV := Lib.hid hV
        cases V
        · clear hw hw'
          go_wp2_with fail
          refine (sent_at (lateF cs (k + 1)) H.out k k false (by simp [lateF]; omega) (by omega) (lateF_ok cs k (by omega)) hsucc.out).mono ?_
          rintro e w2 ⟨rfl, H2, K2⟩
          have O2 := Lib.hid (K2.own HO.out rfl rfl)
          replace H2 := Lib.hid H2
          clear H HO K2
          go_wp2_with fail
          go_roundw
          case rel => exact ⟨k + 1, by omega, by go_num, A, c, by rw [hW.out], by rw [hW.out]; exact O2, H2⟩
          case measure => simp [intOf]; omega
        · have hkt : ¬ k + q ≤ t := by simpa using hw'
          have hkt2 : decide ((k : Int) + (q : Int) ≤ (t : Int)) = false := decide_eq_false (by omega)
          clear hw hw'
          go_wp2_with fail
          refine (sent_at (lateF cs (k + 1)) H.out k k true (by simp [lateF]; omega) (by omega) (lateF_ok cs k (by omega)) hsucc.out).mono ?_
          rintro e w2 ⟨rfl, H2, K2⟩
          have O2 := Lib.hid (K2.own HO.out rfl rfl)
          replace H2 := Lib.hid H2
          clear H HO K2
          go_wp2_with fail
          go_roundw
          case rel => exact ⟨k + 1, by omega, by go_num, A, c, by rw [hW.out], by rw [hW.out]; exact O2, H2⟩
          case measure => simp [intOf]; omega
    · have hk' : k = m := by omega
      subst hk'
      clear hkm hk
      obtain ⟨W, hW⟩ : ∃ W, lateW cs q t k = W := ⟨_, rfl⟩
      have hWl : W.length ≤ k := by rw [← hW]; exact lateW_len cs q t k
      have e1 : fnums (lateF cs k) (qlost (lateF cs k).came (lateF cs k).largest (t : Int) (max (q : Int) 1)) = W := by rw [← hW]; exact lateW_nums cs q t k hq0
      have e2 := late1_none cs q t k
      have e3 : (late1 cs q t k).l.length = k - W.length := by rw [← hW]; exact late1_len cs q t k hq0
      have e4 := late_sum cs q t k hq0
      rw [hW] at HO e4 ⊢
      replace hW := Lib.hid hW
      replace e1 := Lib.hid e1
      replace e2 := Lib.hid e2
      have hsub : (k : Int) - (W.length : Int) = ((k - W.length : Nat) : Int) := by omega
      obtain ⟨u, hu⟩ : ∃ u, k - W.length = u := ⟨_, rfl⟩
      rw [hu] at hsub e3
      have huu : ((u : Int) != (u : Int)) = false := by simp
      replace e3 := Lib.hid e3
      replace e4 := Lib.hid e4
      replace hu := Lib.hid hu
      go_wp2_with fail
      refine (lost_at (late1 cs q t k) W H.out t q (by omega) e1.out rfl).mono ?_
      rintro e w2 ⟨A2, c2, rfl, o2, H2, K2⟩
      have O2 := Lib.hid (K2.own HO.out rfl rfl)
      replace o2 := Lib.hid o2
      replace H2 := Lib.hid H2
      clear H HO K2
      go_wp2_with fail
      have hWb : W.length ≤ 140737488355328 := by omega
      have HS := Lib.hid (still_of (samen_any W W A2 A c2 c w2 (Rd.of_own o2.out) (Rd.of_own O2.out) hWb hWb))
      clear hWb
      refine HS.out.mono ?_
      rintro e w3 ⟨rfl, S3⟩
      rw [show decide (W = W) = true from decide_eq_true rfl]
      replace O2 := Lib.hid (S3.own O2.out)
      replace H2 := Lib.hid (H2.out.below S3.below)
      clear S3 o2
      go_wp2_with fail
      refine (under_at u H2.out e3.out).mono ?_
      rintro e w4 ⟨rfl, rfl⟩
      go_wp2_with fail
      refine (lost_at (late1 cs q t k) [] H2.out t q (by omega) e2.out.1 e2.out.2).mono ?_
      rintro e w5 ⟨A5, c5, rfl, -, H5, K5⟩
      replace O2 := Lib.hid (K5.own O2.out rfl rfl)
      replace H5 := Lib.hid H5
      clear H2 K5
      by_cases hk5 : k < 5
      · go_wp2_with fail
        refine (awake_any _).mono ?_
        rintro e wf ⟨rfl, hbf⟩
        go_wp2_with fail
        go_ret
        exact ⟨rfl, H5.out.bl.trans (hbf.mono H5.out.bl.size)⟩
      · obtain ⟨n, hn⟩ : ∃ n, k - 1 = n := ⟨_, rfl⟩
        have hn1 : (k : Int) - 1 = (n : Int) := by omega
        have g1 := late_good cs q t k (by omega)
        have g2 := late2_q cs q t k (by omega)
        have g3 := late3_len cs q t k (by omega)
        replace e4 := e4.out
        rw [hn] at g1 e4
        have d2 : late2 cs q t k = ftake (fheard (late1 cs q t k) [⟨n, n⟩]) (qcame [⟨n, n⟩]) := by rw [← hn]; rfl
        obtain ⟨C, hC⟩ : ∃ C, fnums (late1 cs q t k) (qcame [⟨n, n⟩]) = C := ⟨_, rfl⟩
        obtain ⟨R, hR⟩ : ∃ R, fnums (late2 cs q t k) (lateR k) = R := ⟨_, rfl⟩
        obtain ⟨l3, hl3⟩ : ∃ l3, (late3 cs q t k).l.length = l3 := ⟨_, rfl⟩
        rw [hC, hR, hl3] at e4
        rw [hl3] at g3
        have hR2 : fnums (late2 cs q t k) (qlost (late2 cs q t k).came (late2 cs q t k).largest 0 (max 1000 1)) = R := by rw [g2]; exact hR
        have hF2 : ftake (late2 cs q t k) (qlost (late2 cs q t k).came (late2 cs q t k).largest 0 (max 1000 1)) = late3 cs q t k := by rw [g2]; rfl
        have hs1 : (C.length : Int) + (R.length : Int) + (W.length : Int) + (l3 : Int) = (k : Int) := by omega
        have hs2 : decide ((l3 : Int) ≤ 2) = true := decide_eq_true (by omega)
        have hb1 : C.length ≤ 21 := by omega
        have hb2 : R.length ≤ 21 := by omega
        have hb3 : W.length ≤ 21 := by omega
        have hb4 : l3 ≤ 21 := by omega
        replace g1 := Lib.hid g1
        replace d2 := Lib.hid d2
        replace hC := Lib.hid hC
        replace hR2 := Lib.hid hR2
        replace hF2 := Lib.hid hF2
        replace hl3 := Lib.hid hl3
        clear hn g2 hR e4 e1 e2 e3 hsub hu huu O2
        go_wp2_with fail
        refine (came_lit (late2 cs q t k) C H5.out n n _ g1.out hC.out d2.out.symm).mono ?_
        rintro e w6 ⟨A6, c6, rfl, -, H6, -⟩
        replace H6 := Lib.hid H6
        clear H5 d2 hC g1
        go_wp2_with fail
        refine (lost_at (late3 cs q t k) R H6.out 0 1000 (by decide) hR2.out hF2.out).mono ?_
        rintro e w7 ⟨A7, c7, rfl, -, H7, -⟩
        replace H7 := Lib.hid H7
        clear H6 hR2 hF2
        go_wp2_with fail
        refine (under_at l3 H7.out hl3.out).mono ?_
        rintro e w8 ⟨rfl, rfl⟩
        go_wp2_with fail
        refine (under_at l3 H7.out hl3.out).mono ?_
        rintro e w8 ⟨rfl, rfl⟩
        go_wp2_with fail
        refine (awake_any _).mono ?_
        rintro e wf ⟨rfl, hbf⟩
        go_wp2_with fail
        go_ret
        exact ⟨rfl, H7.out.bl.trans (hbf.mono H7.out.bl.size)⟩
end Go.Proofs.Ytifigmhecgbfoaa
