/- OutgoAllows: the walk. -/
import Derived.Test.YtljpboikjhckiaaOutL
import Derived.OpenShut
namespace Go.Proofs.Ytljpboikjhckiaa
open Go.RowKit

def AllowSt (B : Nat) (w w' : World) (p g n : Nat) (AD : Option Addr) (cD : Nat) (D : List UInt8) (s : Nat) : Prop :=
  ∃ e : UInt8, OutAt B w w' p g n AD cD D (ast n s e) ∧ (e = 0 ∨ e = 1) ∧ (s < n → e = 0) ∧ s ≤ n ∧ (s = n → 0 < n → e = 1)

set_option maxRecDepth 100000 in
set_option maxHeartbeats 16000000 in
theorem allows_in (D : List UInt8) (A A2 : Option Addr) (n cap cap2 : Nat) (ns : List Int) (w : World) (hDl : Hid (D.length = n)) (hr : Rd w A (bv D)) (hr2 : Rd w A2 (ns.map (Value.int .i64))) (hwf : Hid (∀ x ∈ ns, (Lit.int .i64 x).wf = true)) (hc : n ≤ cap) (hcm : cap ≤ 9223372036854775807) (h0 : n ≤ 100) (N : Nat) (hN : Hid (ns.length = N)) (h1 : N ≤ 12) :
    Calls Try.prog 7 #[.slice A n cap, .slice A2 N cap2] w fun e w' => e = .returned (.bool true) ∧ Below w.heap.size w w' := by
  have HR := Lib.hid hr
  have HR2 := Lib.hid hr2
  clear hr hr2
  go_enter Try.func7, Try.ntmps7
  go_wp2_with (at_builtin; refine wpList_app _ rfl _ _ 22 (by rfl) w.heap.size 5 (.int .u8 0) 1 infoB Try.underlying22 rfl (.slice none 0 0) 0 [] (by rfl) (World.ownsRow_nil _ _ _ _) A n cap (bv D) (by rfl) (by rw [bv_length]; exact hDl.out) HR.out (bv_one _) (by unfold maxLen; omega) (by omega) (Nat.le_refl _) ?_; intro A1 c1 w1 hown hgrow hat)
  have hb1 : Below w.heap.size w w1 := (Below.refl _ _).grown hgrow (Nat.le_refl _) (fun k hk => by simp [Value.ownBlock] at hk)
  simp only [List.nil_append, Nat.zero_add] at hown ⊢
  have hA1 : Hid (A1 = none → c1 = 0) := Lib.hid (fun h => by
    rcases own_cases hown with ⟨_, _, h3, _⟩ | ⟨g, h3, _⟩
    · exact h3
    · rw [h] at h3; cases h3)
  have R1 := Lib.hid (Rd.of_own hown)
  have hs1 := hb1.size
  replace hown := Lib.hid hown
  replace hgrow := Lib.hid hgrow
  replace hat := Lib.hid hat
  replace hb1 := Lib.hid hb1
  refine (onew_at w.heap.size w w1 D A1 n c1 hDl.out hb1.out hs1 R1.out hA1.out (by omega)).mono ?_
  rintro e w2 ⟨p, g, AD, cD, rfl, I2, -, -, -, -⟩
  rw [mk_zero, ← ast_new] at I2
  replace I2 : Hid (AllowSt w.heap.size w w2 p g n AD cD D 0) := Lib.hid ⟨0, I2, .inl rfl, fun _ => rfl, by omega, fun h1 h2 => by omega⟩
  clear hs1
  go_wp2_with fail
  go_loopw [6, 7, 8] (fun al s i wr => ∃ (k s' al' : Nat), k ≤ N ∧ s' ≤ n ∧ s' ≤ al' ∧ al' ≤ 110 ∧ i = .int .i64 k ∧ s = .int .i64 s' ∧ al = .int .i64 al' ∧ AllowSt w.heap.size w wr p g n AD cD D s') (fun _ _ i _ => N - (intOf i).toNat)
  case atStart => exact ⟨0, 0, 0, by omega, by omega, by omega, by omega, rfl, rfl, rfl, I2.out⟩
  case round =>
    obtain ⟨k, s, al, hk, hs, hsal, hal, rfl, rfl, rfl, I3⟩ := hrel
    clear I2
    by_cases hkN : k < N
    · obtain ⟨c, hcut⟩ : ∃ c, ns[k]? = some c := ⟨_, List.getElem?_eq_getElem (by have := hN.out; omega)⟩
      obtain ⟨r0, hr0, -⟩ := low_ex c 20 (by omega) (by omega)
      have RN := HR2.out.below (by obtain ⟨e, I, _⟩ := I3; exact I.bel)
      obtain ⟨b1, o1, rfl, g1⟩ := RN.at_ (k := k) (by simp [hN.out]; omega)
      clear RN
      simp only [List.getElem_map] at g1
      have gc : Hid (ns[k]'(by have := hN.out; omega) = c) := Lib.hid (by rw [List.getElem?_eq_getElem (by have := hN.out; omega)] at hcut; injection hcut)
      rw [gc.out] at g1
      replace hcut := Lib.hid hcut
      have hcb := Go.bounds_i64 (hwf.out c (by rw [← gc.out]; exact List.getElem_mem _))
      obtain ⟨r0, er⟩ : ∃ r0 : Nat, low c 20 = r0 := Int.eq_ofNat_of_zero_le (low_bd c 20 (by omega) (by omega)).1
      have hr0 : r0 < 20 := by have := (low_bd c 20 (by omega) (by omega)).2; omega
      obtain ⟨av, ea⟩ : ∃ av : Nat, low (c.tdiv 20) 110 = av := Int.eq_ofNat_of_zero_le (low_bd (c.tdiv 20) 110 (by omega) (by omega)).1
      have hav : av < 110 := by have := (low_bd (c.tdiv 20) 110 (by omega) (by omega)).2; omega
      obtain ⟨R, hR⟩ : ∃ R : Nat, (1 : Int) + r0 = R := ⟨1 + r0, by omega⟩
      have hRb : 1 ≤ R ∧ R ≤ 20 := by omega
      obtain ⟨al2, hal2⟩ : ∃ al2 : Nat, (al2 : Int) = max (al : Int) av := ⟨max al av, by omega⟩
      have hal3 : al ≤ al2 ∧ av ≤ al2 ∧ al2 ≤ 110 := by omega
      have M1 := fun ts t w => run_max2 (P := Try.prog) al av al2 hal2 ts t w
      obtain ⟨q, hq⟩ : ∃ q : Nat, (q : Int) = min (av : Int) n := ⟨min av n, by omega⟩
      have hqb : q ≤ av ∧ q ≤ n ∧ (q = av ∨ q = n) := by omega
      have M2 := fun ts t w => run_min2 (P := Try.prog) av n q hq ts t w
      replace hal2 := Lib.hid hal2
      replace hq := Lib.hid hq
      obtain ⟨e0, I4, he1, he2, hsn, he3⟩ := I3
      have hss : ((s : Int) != (s : Int)) = false := by simp
      by_cases hsn2 : s < n
      · obtain rfl : e0 = 0 := he2 hsn2
        clear he1 he2 he3
        by_cases hsa : s < av
        · obtain ⟨m, hm⟩ : ∃ m : Nat, (m : Int) = min (R : Int) ((q : Int) - s) := ⟨(min (R : Int) ((q : Int) - s)).toNat, by omega⟩
          have hmb : 1 ≤ m ∧ s + m ≤ n ∧ s + m ≤ av := by omega
          have M3 := fun ts ty w => run_min2 (P := Try.prog) R ((q : Int) - s) m hm ts ty w
          have M4 := fun ts ty w => run_max2 (P := Try.prog) m 0 m (by omega) ts ty w
          have hlm : Hid (((D.drop s).take m).length = m) := Lib.hid (by have := hDl.out; simp; omega)
          have hst := Lib.hid (ast_step (D := D) (n := n) (s := s) (m := m) (room := R) (allow := av) hsn2 (by omega) (by omega) (by rw [hm, hq.out]))
          obtain ⟨X, K, qX⟩ := cut_lhI (P := Try.prog) Try.underlying22 infoB A n cap s (s + m) (s : Int) ((s : Int) + m) rfl (by omega) (by omega) (by omega)
          rw [Nat.add_sub_cancel_left] at K
          replace qX := Lib.hid qX
          replace hm := Lib.hid hm
          obtain ⟨eb, heb⟩ : ∃ eb, decide (s + m = n) = eb := ⟨_, rfl⟩
          have hbe : (((s : Int) + m) == (n : Int)) = eb := by rw [← heb, Bool.eq_iff_iff, beq_iff_eq, decide_eq_true_eq]; omega
          have hbb : (eb != eb) = false := by simp
          rw [heb] at hst
          replace heb := Lib.hid heb
          have hsm : (s : Int) + m = ((s + m : Nat) : Int) := by omega
          replace hsm := Lib.hid hsm
          go_wp2_with fail
          go_quiet ((go_at_call 24; exact quiet_left (low_any _ _ _ (by decide) (by decide))))
          go_wp2_with fail
          refine (onext_at (I4.drewN _) R av s ((D.drop s).take m) m eb true _ (by omega) (by omega) (by omega) (by omega) hlm.out hst.out).mono ?_
          rintro r w5 ⟨A5, c5, rfl, ho5, I5, -⟩
          have R5 := Lib.hid (Rd.of_own ho5)
          clear I4 ho5
          go_wp2_with fail
          refine (same_eq ((D.drop s).take m) m A5 X c5 (cap - s) _ hlm.out R5.out (by have := qX.out.bytes (HR.out.below I5.bel) (by have := hDl.out; omega) (by have := hDl.out; omega); rwa [Nat.add_sub_cancel_left] at this) (by omega)).mono ?_
          rintro e w7 ⟨rfl, qs⟩
          replace I5 := I5.still qs
          clear qs
          go_wp2_with fail
          refine (osent_at I5 (s + m) (ast_sent n (s + m) _ (by omega))).mono ?_
          rintro e w6 ⟨rfl, qs⟩
          have I6 := I5.still qs
          clear qs I5
          have hcmp : ((((s + m : Nat)) : Int) != ((s + m : Nat) : Int)) = false := by simp
          go_wp2_with fail
          go_roundw
          case rel => exact ⟨k + 1, s + m, al2, by omega, by omega, by omega, by omega, by go_num, by go_num, rfl, _, I6, by split; exact .inr rfl; exact .inl rfl, fun h => by rw [if_neg (by omega)], by omega, fun h _ => by rw [if_pos h]⟩
          case measure => simp [intOf] <;> omega
        · skip
          obtain ⟨t, ht⟩ : ∃ t : Int, t = min (R : Int) ((q : Int) - s) := ⟨_, rfl⟩
          have htn : t ≤ 0 := by omega
          have htb : -1000 ≤ t := by omega
          have M3 := fun ts ty w => run_min2 (P := Try.prog) R ((q : Int) - s) t ht ts ty w
          have M4 := fun ts ty w => run_max2 (P := Try.prog) t 0 0 (by omega) ts ty w
          replace ht := Lib.hid ht
          go_wp2_with fail
          go_quiet ((go_at_call 24; exact quiet_left (low_any _ _ _ (by decide) (by decide))))
          go_wp2_with fail
          refine (onext_at (I4.drewN _) R av 0 [] 0 false false _ (by omega) (by omega) (by omega) (by omega) rfl (ast_stop hsn2 (by omega))).mono ?_
          rintro r w5 ⟨A5, c5, rfl, ho5, I5, -⟩
          have R5 := Lib.hid (Rd.of_own ho5)
          clear I4 ho5
          go_wp2_with fail
          refine (osent_at I5 (s) (ast_sent n (s) _ (by omega))).mono ?_
          rintro e w6 ⟨rfl, qs⟩
          have I6 := I5.still qs
          clear qs I5
          have hcmp : ((((s : Nat)) : Int) != ((s : Nat) : Int)) = false := by simp
          go_wp2_with fail
          go_roundw
          case rel => exact ⟨k + 1, s, al2, by omega, by omega, by omega, by omega, by go_num, rfl, rfl, _, I6, .inl rfl, fun _ => rfl, by omega, fun h _ => by omega⟩
          case measure => simp [intOf] <;> omega
      · rcases he1 with rfl | rfl
        · have hn0 : n = 0 := by
            rcases Nat.eq_zero_or_pos n with h | h
            · exact h
            · exact absurd (he3 (by omega) h) (by decide)
          have hn1 : n ≤ 0 := by omega
          replace hn0 := Lib.hid hn0
          clear he2 he3
          obtain ⟨t, ht⟩ : ∃ t : Int, t = min (R : Int) ((q : Int) - s) := ⟨_, rfl⟩
          have htn : t ≤ 0 := by omega
          have htb : -1000 ≤ t := by omega
          have M3 := fun ts ty w => run_min2 (P := Try.prog) R ((q : Int) - s) t ht ts ty w
          have M4 := fun ts ty w => run_max2 (P := Try.prog) t 0 0 (by omega) ts ty w
          replace ht := Lib.hid ht
          go_wp2_with fail
          go_quiet ((go_at_call 24; exact quiet_left (low_any _ _ _ (by decide) (by decide))))
          go_wp2_with fail
          refine (onext_at (I4.drewN _) R av 0 [] 0 true true _ (by omega) (by omega) (by omega) (by omega) rfl (ast_empty' (by omega) hn0.out)).mono ?_
          rintro r w5 ⟨A5, c5, rfl, ho5, I5, -⟩
          clear I4 ho5
          go_wp2_with fail
          refine (osent_at I5 (s) (ast_sent n (s) _ (by omega))).mono ?_
          rintro e w6 ⟨rfl, qs⟩
          have I6 := I5.still qs
          clear qs I5
          go_wp2_with fail
          go_roundw
          case rel => exact ⟨k + 1, s, al2, by omega, by omega, by omega, by omega, by go_num, rfl, rfl, _, I6, .inr rfl, fun h => by omega, by omega, fun _ h => rfl⟩
          case measure => simp [intOf] <;> omega
        · clear he2 he3
          obtain ⟨t, ht⟩ : ∃ t : Int, t = min (R : Int) ((q : Int) - s) := ⟨_, rfl⟩
          have htn : t ≤ 0 := by omega
          have htb : -1000 ≤ t := by omega
          have M3 := fun ts ty w => run_min2 (P := Try.prog) R ((q : Int) - s) t ht ts ty w
          have M4 := fun ts ty w => run_max2 (P := Try.prog) t 0 0 (by omega) ts ty w
          replace ht := Lib.hid ht
          go_wp2_with fail
          go_quiet ((go_at_call 24; exact quiet_left (low_any _ _ _ (by decide) (by decide))))
          go_wp2_with fail
          refine (onext_at (I4.drewN _) R av 0 [] 0 false false _ (by omega) (by omega) (by omega) (by omega) rfl (ast_told' (by omega))).mono ?_
          rintro r w5 ⟨A5, c5, rfl, ho5, I5, -⟩
          clear I4 ho5
          go_wp2_with fail
          refine (osent_at I5 (s) (ast_sent n (s) _ (by omega))).mono ?_
          rintro e w6 ⟨rfl, qs⟩
          have I6 := I5.still qs
          clear qs I5
          go_wp2_with fail
          go_roundw
          case rel => exact ⟨k + 1, s, al2, by omega, by omega, by omega, by omega, by go_num, rfl, rfl, _, I6, .inr rfl, fun h => by omega, by omega, fun _ h => rfl⟩
          case measure => simp [intOf] <;> omega
    · obtain ⟨e0, I4, he1, he2, hsn, he3⟩ := I3
      have hl := Lib.hid (ast_lost n s e0 hsn he1)
      go_wp2_with fail
      refine (olost_at I4 0 n false _ (by omega) (by omega) (by omega) (by omega) hl.out).mono ?_
      rintro r w3 ⟨rfl, I5, -⟩
      clear I4
      by_cases hs0 : s = 0
      · obtain ⟨a, l, eb, ok, S', h3, h4, h5⟩ := ast_again0 (D := D) (n := n) he1 (fun h => he2 (by omega))
        rw [hs0] at I5
        replace h3 := Lib.hid h3
        replace h4 := Lib.hid h4
        replace h5 := Lib.hid h5
        have hz : ((s : Int) == 0) = true := beq_iff_eq.2 (by omega)
        replace hs0 := Lib.hid hs0
        replace he1 := Lib.hid he1
        replace he2 := Lib.hid he2
        replace he3 := Lib.hid he3
        go_wp2_with fail
        refine (onext_at I5 n (-5) a l 0 eb ok S' (by omega) (by omega) (by omega) (by omega) h5.out h3.out).mono ?_
        rintro r w6 ⟨A6, c6, rfl, -, I7, -⟩
        clear I5
        have hcmp : ((s : Int) == (s : Int)) = true := beq_self_eq_true _
        go_wp2_with fail
        refine (osent_at I7 s (h4.out.trans hs0.out.symm)).mono ?_
        rintro e w8 ⟨rfl, qs⟩
        have I8 := I7.still qs
        clear qs I7
        go_wp2_with fail
        refine (awake_any _).mono ?_
        rintro e w9 ⟨rfl, hb9⟩
        go_wp2_with fail
        go_ret
        exact ⟨rfl, (I8.below hb9).bel⟩
      · obtain ⟨eb, S', h3, h4⟩ := ast_again (D := D) (e := e0) hsn (by omega)
        replace h3 := Lib.hid h3
        replace h4 := Lib.hid h4
        have hz : ((s : Int) == 0) = false := beq_eq_false_iff_ne.2 (by omega)
        have hls : Hid ((D.take s).length = s) := Lib.hid (by have := hDl.out; simp; omega)
        have K := cut_h (P := Try.prog) Try.underlying22 infoB A n cap s (by omega)
        replace hs0 := Lib.hid hs0
        clear he1 he2 he3
        go_wp2_with fail
        refine (onext_at I5 n (-5) 0 (D.take s) s eb true S' (by omega) (by omega) (by omega) (by omega) hls.out h3.out).mono ?_
        rintro r w6 ⟨A6, c6, rfl, ho6, I6, -⟩
        have R6 := Lib.hid (Rd.of_own ho6)
        clear I5 ho6
        have hcmp : ((s : Int) == (s : Int)) = true := beq_self_eq_true _
        go_wp2_with fail
        refine (same_eq (D.take s) s A6 A c6 cap _ hls.out R6.out ((HR.out.below I6.bel).take_bytes s) (by omega)).mono ?_
        rintro e w7 ⟨rfl, qs⟩
        have I7 := I6.still qs
        clear qs I6
        go_wp2_with fail
        refine (osent_at I7 s h4.out).mono ?_
        rintro e w8 ⟨rfl, qs⟩
        have I8 := I7.still qs
        clear qs I7
        go_wp2_with fail
        refine (awake_any _).mono ?_
        rintro e w9 ⟨rfl, hb9⟩
        go_wp2_with fail
        go_ret
        exact ⟨rfl, (I8.below hb9).bel⟩

set_option maxRecDepth 100000 in
set_option maxHeartbeats 2000000 in
theorem allows_out (n m : Nat) (A A2 : Option Addr) (cap cap2 : Nat) (w : World) (hn : n ≤ 9223372036854775807) (hm : m ≤ 9223372036854775807) (h : 100 < n ∨ 12 < m) :
    Calls Try.prog 7 #[.slice A n cap, .slice A2 m cap2] w fun e w' => e = .returned (.bool true) ∧ Below w.heap.size w w' := by
  by_cases h1 : 100 < n
  · go_enter Try.func7, Try.ntmps7
    go_wp2_with fail
    refine (awake_any _).mono ?_
    rintro e wf ⟨rfl, hbf⟩
    go_wp2_with fail
    go_ret
    exact ⟨rfl, hbf⟩
  · have h2 : 12 < m := by omega
    clear h
    go_enter Try.func7, Try.ntmps7
    go_wp2_with fail
    refine (awake_any _).mono ?_
    rintro e wf ⟨rfl, hbf⟩
    go_wp2_with fail
    go_ret
    exact ⟨rfl, hbf⟩
theorem allows_any (D : List UInt8) (A A2 : Option Addr) (cap cap2 : Nat) (ns : List Int) (w : World) (hr : Rd w A (bv D)) (hr2 : Rd w A2 (ns.map (Value.int .i64))) (hwf : ∀ x ∈ ns, (Lit.int .i64 x).wf = true) (hc : D.length ≤ cap) (hcm : cap ≤ 9223372036854775807) (hc2 : ns.length ≤ 9223372036854775807) :
    Calls Try.prog 7 #[.slice A D.length cap, .slice A2 ns.length cap2] w fun e w' => e = .returned (.bool true) ∧ Below w.heap.size w w' := by
  by_cases h : 100 < D.length ∨ 12 < ns.length
  · exact allows_out D.length ns.length A A2 cap cap2 w (by omega) hc2 h
  · exact allows_in D A A2 D.length cap cap2 ns w (Lib.hid rfl) hr hr2 (Lib.hid hwf) hc hcm (by omega) ns.length (Lib.hid rfl) (by omega)
end Go.Proofs.Ytljpboikjhckiaa
