/- TableTwins answers true at every input. -/
import Derived.Test.YtgcnhppafclnmaaTbL
namespace Go.Proofs.Ytgcnhppafclnmaa
open Go.RowKit

set_option maxRecDepth 100000 in
set_option maxHeartbeats 8000000 in
theorem ttwins_in (m0 : Int) (l : List Fd) (A0 : Option Addr) (cap N : Nat) (w : World) (hN : l.length = N) (hr : Rd w A0 (fdv l)) (hN40 : N ≤ 40) (hsz : ∀ x ∈ l, x.name.size ≤ reachBytes ∧ x.value.size ≤ reachBytes) :
    Calls Try.prog 4 #[.int .i64 m0, .slice A0 N cap] w fun e w' => e = .returned (.bool true) ∧ Below w.heap.size w w' := by
  have b1 : decide ((40 : Int) < (N : Int)) = false := decide_eq_false (by omega)
  obtain ⟨M, hM, L1⟩ := low_ex m0 513 (by omega) (by omega)
  have hM512 : M ≤ 512 := by omega
  replace L1 := Lib.hid L1
  have HR := Lib.hid hr
  replace hsz := Lib.hid hsz
  replace hN := Lib.hid hN
  clear hr
  go_enter Try.func4, Try.ntmps4
  go_wp2_with fail
  refine (L1.out _).mono ?_
  rintro e w1 ⟨rfl, rfl⟩
  clear L1
  go_wp2_with fail
  refine (tnew_at (fun k => k < w.heap.size) w (fun _ h => h) M hM512).mono ?_
  rintro e w1 ⟨pa, rfl, H1, hb1⟩
  replace H1 := Lib.hid H1
  replace hb1 := Lib.hid hb1
  go_wp2_with fail
  refine (tnew_at (fun k => k < w1.heap.size) w1 (fun _ h => h) M hM512).mono ?_
  rintro e w2 ⟨pb, rfl, H2, hb2⟩
  have HS0 := Lib.hid (TwSt.start H1.out hb1.out H2 hb2)
  clear H1 hb1 H2 hb2
  go_wp2_with fail
  go_loopw [7, 8] (fun v i wr => ∃ (k n c : Nat) (A : Option Addr) (t : Tb), k ≤ N ∧ n ≤ k ∧ v = .slice A n c ∧ i = .int .i64 k ∧ Hid (∃ P, TwSt w wr P pa pb A n c t t t.F) ∧ Hid (t.Ok ∧ t.most = M ∧ t.F.length = n ∧ ∀ f ∈ t.F, f.size ≤ 1000000)) (fun _ i _ => N - (intOf i).toNat)
  case atStart => exact ⟨0, 0, 0, none, tnew M, by omega, by omega, rfl, rfl, Lib.hid ⟨_, HS0.out⟩, Lib.hid ⟨tnew_ok M, rfl, rfl, fun f hf => by cases hf⟩⟩
  case round =>
    clear HS0
    obtain ⟨k, n, c, A, t, hk, hnk, rfl, rfl, HS, HT⟩ := hrel
    by_cases hkN : k < N
    · rename_i aa; clear aa
      have hkl : k < l.length := by rw [hN.out]; exact hkN
      obtain ⟨b0, o0, hA0, hcells⟩ : ∃ b off, A0 = some ⟨b, off, none⟩ ∧ Hid (∀ W, Below w.heap.size w W → W.cell? ⟨b, off + k * 2, none⟩ = some (.string (l[k]).name) ∧ W.cell? ⟨b, off + k * 2 + 1, none⟩ = some (.string (l[k]).value)) := by
        obtain ⟨b, off, rfl, -, -⟩ := load_fd HR.out hkl
        refine ⟨b, off, rfl, Lib.hid fun W hW => ?_⟩
        obtain ⟨b2, off2, e, h2, h3⟩ := load_fd (HR.out.below hW) hkl
        injection e with e
        injection e with e1 e2
        subst e1 e2
        exact ⟨h2, h3⟩
      subst hA0
      have hszk := hsz.out _ (List.getElem_mem hkl)
      obtain ⟨f, hf⟩ : ∃ f, l[k] = f := ⟨_, rfl⟩
      rw [hf] at hcells hszk
      obtain ⟨a, b⟩ := f
      simp only at hcells hszk
      obtain ⟨sa, hsa⟩ : ∃ sa, a.size = sa := ⟨_, rfl⟩
      obtain ⟨sb, hsb⟩ : ∃ sb, b.size = sb := ⟨_, rfl⟩
      have hq : sa ≤ 140737488351232 ∧ sb ≤ 140737488351232 := by
        rw [← hsa, ← hsb]; have := hszk; unfold reachBytes at this; exact ⟨by omega, by omega⟩
      obtain ⟨hq1, hq2⟩ := hq
      obtain ⟨P, S0⟩ := HS.out
      have hbW := S0.below
      obtain ⟨x0, x1⟩ := hcells.out _ hbW
      replace S0 := Lib.hid S0
      clear HS hszk hf hkl hbW
      by_cases h60 : 60 < sa + sb
      · have d1 : decide ((60 : Int) < (sa : Int) + (sb : Int)) = true := decide_eq_true (by omega)
        go_wp2_with fail
        go_big_quiet (fail)
        go_wp2_with fail
        refine (awake_any _).mono ?_
        rintro e wf ⟨rfl, hbf⟩
        go_wp2_with fail
        go_ret
        have bb := S0.out.below.trans ((Still.drewN _ nq).below.mono S0.out.below.size)
        exact ⟨rfl, bb.trans (hbf.mono bb.size)⟩
      · have d1 : decide ((60 : Int) < (sa : Int) + (sb : Int)) = false := decide_eq_false (by omega)
        obtain ⟨s, hs⟩ : ∃ s, a.size + b.size + 32 = s := ⟨_, rfl⟩
        have hs0 : sa + sb + 32 = s := by omega
        have hsb92 : s ≤ 1000000 := by omega
        go_wp2_with fail
        go_big_quiet (fail)
        clear x0 x1 d1
        replace S0 := Lib.hid (S0.out.bel (Still.drewN _ nq).below)
        obtain ⟨x0, x1⟩ := hcells.out _ S0.out.below
        replace hs := Lib.hid hs
        obtain ⟨p, hp⟩ : ∃ p, decide (s ≤ M) = p := ⟨_, rfl⟩
        have hpm : decide (s ≤ t.most) = p := by rw [HT.out.2.1]; exact hp
        have hpI : decide ((s : Int) ≤ (M : Int)) = p := by rw [← hp]; exact decide_eq_decide.2 (by omega)
        obtain ⟨t', ht'⟩ : ∃ t', t.ins ⟨a, b⟩ = t' := ⟨_, rfl⟩
        have hwk : IntKind.u64.wrap (k : Int) = (k : Int) := by rw [IntKind.wrap_u64]; omega
        have hpp : (p != p) = false := by simp
        replace hpm := Lib.hid hpm
        replace ht' := Lib.hid ht'
        have hp' := Lib.hid hp
        go_wp2_with fail
        refine (twi_l S0.out t' p a b s hs.out hsb92 (by have := HT.out.2.2.1; omega) hpm.out ht'.out).mono ?_
        rintro e w3 ⟨rfl, S3⟩
        clear x0 x1 S0
        obtain ⟨x0, x1⟩ := hcells.out _ S3.below
        replace S3 := Lib.hid S3
        go_wp2_with fail
        refine (twf_l S3.out a b).mono ?_
        rintro e w4 ⟨⟨v4, rfl⟩, S4⟩
        clear x0 x1 S3
        obtain ⟨x0, x1⟩ := hcells.out _ S4.below
        replace S4 := Lib.hid S4
        go_wp2_with fail
        refine (twg_l S4.out k (by omega)).mono ?_
        rintro e w5 ⟨⟨v5, rfl⟩, S5⟩
        clear x0 x1 S4
        obtain ⟨x0, x1⟩ := hcells.out _ S5.below
        replace S5 := Lib.hid S5
        go_wp2_with fail
        refine (twi_r S5.out t' p a b s hs.out hsb92 (by have := HT.out.2.2.1; omega) hpm.out ht'.out).mono ?_
        rintro e w6 ⟨rfl, S6⟩
        clear x0 x1 S5
        obtain ⟨x0, x1⟩ := hcells.out _ S6.below
        replace S6 := Lib.hid S6
        go_wp2_with fail
        refine (tws_l S6.out a b s hs.out hsb92).mono ?_
        rintro e w7 ⟨rfl, S7⟩
        clear x0 x1 S6
        obtain ⟨x0, x1⟩ := hcells.out _ S7.below
        replace S7 := Lib.hid S7
        cases p with
        | true =>
          have hF := (ins_twin t a b s hs.out).1 (by rw [HT.out.2.1]; exact of_decide_eq_true hp'.out)
          rw [ht'.out] at hF
          have hc63 := S7.out.fin
          have HT' : Hid (t'.Ok ∧ t'.most = M ∧ t'.F.length = n + 1 ∧ ∀ f ∈ t'.F, f.size ≤ 1000000) := Lib.hid ⟨by rw [← ht'.out]; exact t.ins_ok _ HT.out.1, by rw [← ht'.out, t.ins_most]; exact HT.out.2.1, by rw [hF, List.length_append, HT.out.2.2.1]; rfl, fun f hf => by
            rw [hF] at hf
            rcases List.mem_append.1 hf with hf | hf
            · exact HT.out.2.2.2 f hf
            · have e := List.mem_singleton.1 hf
              subst e
              unfold Fd.size
              have := hs.out
              simp only
              omega⟩
          replace hF := Lib.hid hF
          go_wp2_with (at_builtin; refine Hid.out ?_)
          refine Lib.hid ?_
          refine wpList_appS rfl _ _ 22 rfl w.heap.size 28 _ 2 32 infoF Try.underlying22 rfl (by decide) (.slice A n c) n (fdv t.F) rfl (S7.out.own.alloc _) ⟨w7.heap.size, 0, none⟩ 1 1 [.string a, .string b] rfl rfl (Rd.fresh_mark w7 [.string a, .string b] _ _).cells (by intro u hu; simp at hu; rcases hu with rfl | rfl <;> rfl) (by unfold maxLen; omega) (by omega) (by have := S7.out.below.size; simp only [World.size_alloc]; omega) ?_
          intro A8 c8 w8 o8 g8 hat
          have S8 := Lib.hid (S7.out.app _ a b A8 c8 w8 o8 g8 hat)
          clear o8 g8 hat x0 x1 S7
          go_wp2_with fail
          go_roundw
          case rel => exact ⟨k + 1, n + 1, c8, A8, t', by omega, by omega, rfl, by go_num, Lib.hid (by rw [hF.out]; exact S8.out), HT'⟩
          case measure => simp [intOf]; omega
        | false =>
          have hF := (ins_twin t a b s hs.out).2 (by rw [HT.out.2.1]; have := of_decide_eq_false hp'.out; omega)
          rw [ht'.out] at hF
          go_wp2_with fail
          go_roundw
          case rel => exact ⟨k + 1, n, c, A, t', by omega, by omega, rfl, by go_num, Lib.hid ⟨P, by have h := S7.out; rw [hF] at h ⊢; exact h⟩, by rw [hF]; exact HT⟩
          case measure => simp [intOf]; omega
    · have hk' : k = N := by omega
      obtain ⟨P, S0⟩ := HS.out
      have hnc := S0.fin
      replace S0 := Lib.hid S0
      have hn40 : n ≤ 40 := by omega
      clear HS
      replace hk' := Lib.hid hk'
      obtain ⟨F, hF⟩ : ∃ F, t.F = F := ⟨_, rfl⟩
      replace S0 : Hid (TwSt w wr P pa pb A n c t t F) := by rw [hF] at S0; exact S0
      replace HT : Hid (t.Ok ∧ t.most = M ∧ F.length = n ∧ ∀ f ∈ F, f.size ≤ 1000000) := by rw [hF] at HT; exact HT
      replace hF := Lib.hid hF
      go_wp2_with fail
      go_loopw [10, 11] (fun v i wq => ∃ (j s : Nat), j ≤ n ∧ s ≤ M ∧ v = .int .i64 j ∧ i = .int .i64 s ∧ Hid (s = tsum (F.drop j)) ∧ Hid (TwSt w wq P pa pb A n c t t F)) (fun v _ _ => (intOf v).toNat)
      case atStart => exact ⟨n, 0, Nat.le_refl _, by omega, rfl, rfl, Lib.hid (by rw [← HT.out.2.2.1, List.drop_length]; rfl), S0⟩
      case round =>
        clear S0
        obtain ⟨j, s, hj, hsM, rfl, rfl, hs, S1⟩ := hrel
        by_cases hj0 : 0 < j
        · obtain ⟨i, hi⟩ : ∃ i, j = i + 1 := ⟨j - 1, by omega⟩
          have hjI : (j : Int) - 1 = (i : Int) := by omega
          have hin : i < n := by omega
          have hinI : (i : Int) < (n : Int) := by omega
          have d0 : decide (0 < j) = true := decide_eq_true hj0
          have d0' : decide ((0 : Int) < (j : Int)) = true := decide_eq_true (by omega)
          have hiF : i < F.length := by rw [HT.out.2.2.1]; exact hin
          obtain ⟨b0, hA, hcells⟩ : ∃ b, A = some ⟨b, 0, none⟩ ∧ Hid (∀ W, TwSt w W P pa pb A n c t t F → W.cell? ⟨b, i * 2, none⟩ = some (.string (F[i]).name) ∧ W.cell? ⟨b, i * 2 + 1, none⟩ = some (.string (F[i]).value)) := by
            rcases ownS_cases S1.out.own with ⟨_, h2, _⟩ | ⟨gb, h1, _⟩
            · omega
            · refine ⟨gb, h1, Lib.hid fun W hW => ?_⟩
              obtain ⟨b', off', e1, x0, x1⟩ := load_fd (Rd.of_ownS hW.own) hiF
              rw [h1] at e1
              injection e1 with e1
              injection e1 with e1 e2
              subst e1 e2
              rw [Nat.zero_add] at x0 x1
              exact ⟨x0, x1⟩
          subst hA
          have hsum := tsum_drop_one F i F[i] (List.getElem?_eq_getElem hiF)
          obtain ⟨f, hf⟩ : ∃ f, F[i] = f := ⟨_, rfl⟩
          rw [hf] at hcells hsum
          obtain ⟨a, b⟩ := f
          simp only at hcells
          obtain ⟨z, hz⟩ : ∃ z, a.size + b.size + 32 = z := ⟨_, rfl⟩
          have hzb0 : z ≤ 1000000 := by
            have := HT.out.2.2.2 F[i] (List.getElem_mem hiF)
            rw [hf] at this
            rw [← hz]
            exact this
          have hfz : tsum (F.drop i) = z + s := by rw [hsum, ← hi, ← hs.out, ← hz]; rfl
          by_cases hzM : s + z ≤ M
          · have hzb : z ≤ 1000000 := by omega
            obtain ⟨y, hy⟩ : ∃ y, s + z = y := ⟨_, rfl⟩
            have hyI : (s : Int) + (z : Int) = (y : Int) := by omega
            have hyM : y ≤ M := by omega
            have d1 : decide (y ≤ M) = true := decide_eq_true hyM
            have d1' : decide ((y : Int) ≤ (M : Int)) = true := decide_eq_true (by omega)
            have hye : Hid (y = tsum (F.drop i)) := Lib.hid (by rw [hfz]; omega)
            replace hy := Lib.hid hy
            replace hfz := Lib.hid hfz
            replace hsum := Lib.hid hsum
            replace hi := Lib.hid hi
            replace hs := Lib.hid hs
            replace hz := Lib.hid hz
            clear hf hzM hj
            obtain ⟨x0, x1⟩ := hcells.out _ S1.out
            go_wp2_with fail
            refine (tws_l S1.out a b z hz.out hzb).mono ?_
            rintro e w3 ⟨rfl, S3⟩
            clear x0 x1 S1
            obtain ⟨x0, x1⟩ := hcells.out _ S3
            replace S3 := Lib.hid S3
            go_wp2_with fail
            refine (tws_l S3.out a b z hz.out hzb).mono ?_
            rintro e w4 ⟨rfl, S4⟩
            clear x0 x1 S3
            replace S4 := Lib.hid S4
            go_wp2_with fail
            go_roundw
            case rel => exact ⟨i, y, by omega, hyM, by go_num, by go_num, hye, S4⟩
            case measure => simp [intOf]; have := hi.out; omega
          · have hzb : z ≤ 1000000 := hzb0
            obtain ⟨y, hy⟩ : ∃ y, s + z = y := ⟨_, rfl⟩
            have hyI : (s : Int) + (z : Int) = (y : Int) := by omega
            have hyM : M < y := by omega
            have d1 : decide (y ≤ M) = false := decide_eq_false (by omega)
            have d1' : decide ((y : Int) ≤ (M : Int)) = false := decide_eq_false (by omega)
            have hend : Hid (j = 0 ∨ M < tsum (F.drop (j - 1))) := Lib.hid (.inr (by rw [show j - 1 = i by omega, hfz]; omega))
            replace hy := Lib.hid hy
            replace hfz := Lib.hid hfz
            replace hsum := Lib.hid hsum
            replace hi := Lib.hid hi
            replace hz := Lib.hid hz
            clear hf hzM
            obtain ⟨x0, x1⟩ := hcells.out _ S1.out
            go_wp2_with fail
            refine (tws_l S1.out a b z hz.out hzb).mono ?_
            rintro e w3 ⟨rfl, S3⟩
            clear x0 x1 S1
            replace S3 := Lib.hid S3
            go_wp2_with fail
            have hOk := HT.out.1
            have hmost := HT.out.2.1
            have hlenF := HT.out.2.2.1
            have hgone : j = t.gone := hOk.newest j (by rw [hF.out, hlenF]; exact hj) (by rw [hF.out, hmost, ← hs.out]; exact hsM) (by rw [hF.out, hmost]; exact hend.out)
            have htl : Hid (t.l = F.drop j) := Lib.hid (by unfold Tb.l; rw [← hgone, hF.out])
            have htu : Hid (t.used = s) := Lib.hid (by unfold Tb.used; rw [htl.out, ← hs.out])
            obtain ⟨q, hq⟩ : ∃ q, j + q = n := ⟨n - j, by omega⟩
            have hDl : Hid ((F.drop j).length = q) := Lib.hid (by rw [List.length_drop, hlenF]; omega)
            have hqb : q ≤ 1000000 := by omega
            have HC := cutS_l (P := Try.prog) Try.underlying22 infoF (some ⟨b0, 0, none⟩) n c j q (j : Int) rfl hq hnc.1
            obtain ⟨X, hX⟩ : ∃ X, (if c = j then (some ⟨b0, 0, none⟩ : Option Addr) else (some ⟨b0, 0, none⟩ : Option Addr).map (·.add (j * 2))) = X := ⟨_, rfl⟩
            rw [hX] at HC
            have HRX : Hid (∀ W, TwSt w W P pa pb (some ⟨b0, 0, none⟩) n c t t F → Rd W X (fdv (F.drop j))) := Lib.hid fun W hW => by
              rw [← hX, fdv_drop]
              exact (Rd.of_ownS hW.own).dropS hj hnc.1 (by rw [fdv_len, hlenF])
            have CA := Lib.hid (fun W (h : TwSt w W P pa pb (some ⟨b0, 0, none⟩) n c t t F) => twl_l h (F.drop j) q htl.out hDl.out)
            have CB := Lib.hid (fun W (h : TwSt w W P pa pb (some ⟨b0, 0, none⟩) n c t t F) => twl_r h (F.drop j) q htl.out hDl.out)
            have CS := Lib.hid (fun W A2 c2 (h2 : Rd W A2 (fdv (F.drop j))) (h : TwSt w W P pa pb (some ⟨b0, 0, none⟩) n c t t F) => twq h (F.drop j) q hDl.out A2 X c2 (c - j) h2 (HRX.out W h) hqb)
            have CU := Lib.hid (fun W (h : TwSt w W P pa pb (some ⟨b0, 0, none⟩) n c t t F) => twu_l h s htu.out)
            have CW := Lib.hid (fun W (h : TwSt w W P pa pb (some ⟨b0, 0, none⟩) n c t t F) => twa h)
            replace hX := Lib.hid hX
            replace hq := Lib.hid hq
            replace hgone := Lib.hid hgone
            clear hOk hmost hlenF
            go_region_held3 (fun _ => True) (trivial) (first
              | (go_at_call 7; refine (CW.out _ S8).mono ?_; rintro e w9 ⟨rfl, S9⟩)
              | (go_at_call 13; refine (CU.out _ S7).mono ?_; rintro e w8 ⟨rfl, S8⟩)
              | (go_at_call 21; refine (CS.out _ _ _ R6 S6).mono ?_; rintro e w7 ⟨rfl, S7⟩)
              | (go_at_call 20; refine (CB.out _ S5).mono ?_; rintro e w6 ⟨A6, c6, rfl, R6, S6⟩)
              | (go_at_call 21; refine (CS.out _ _ _ R4 S4).mono ?_; rintro e w5 ⟨rfl, S5⟩)
              | (go_at_call 20; refine (CA.out _ (S3.out.bel (Still.drew _).below)).mono ?_; rintro e w4 ⟨A4, c4, rfl, R4, S4⟩))
            go_wp2_with fail
            go_ret
            exact ⟨rfl, S9.below⟩
        · have hj' : j = 0 := by omega
          have d0 : decide (0 < j) = false := decide_eq_false hj0
          have d0' : decide ((0 : Int) < (j : Int)) = false := decide_eq_false (by omega)
          have hend : Hid (j = 0 ∨ M < tsum (F.drop (j - 1))) := Lib.hid (.inl hj')
          obtain ⟨w3, hw3⟩ : ∃ w3, w3 = wr := ⟨_, rfl⟩
          have S3 := S1
          rw [← hw3] at S3 ⊢
          replace hj' := Lib.hid hj'
          clear S1 hw3
          go_wp2_with fail
          have hOk := HT.out.1
          have hmost := HT.out.2.1
          have hlenF := HT.out.2.2.1
          have hgone : j = t.gone := hOk.newest j (by rw [hF.out, hlenF]; exact hj) (by rw [hF.out, hmost, ← hs.out]; exact hsM) (by rw [hF.out, hmost]; exact hend.out)
          have htl : Hid (t.l = F.drop j) := Lib.hid (by unfold Tb.l; rw [← hgone, hF.out])
          have htu : Hid (t.used = s) := Lib.hid (by unfold Tb.used; rw [htl.out, ← hs.out])
          obtain ⟨q, hq⟩ : ∃ q, j + q = n := ⟨n - j, by omega⟩
          have hDl : Hid ((F.drop j).length = q) := Lib.hid (by rw [List.length_drop, hlenF]; omega)
          have hqb : q ≤ 1000000 := by omega
          have HC := cutS_l (P := Try.prog) Try.underlying22 infoF A n c j q (j : Int) rfl hq hnc.1
          obtain ⟨X, hX⟩ : ∃ X, (if c = j then A else A.map (·.add (j * 2))) = X := ⟨_, rfl⟩
          rw [hX] at HC
          have HRX : Hid (∀ W, TwSt w W P pa pb A n c t t F → Rd W X (fdv (F.drop j))) := Lib.hid fun W hW => by
            rw [← hX, fdv_drop]
            exact (Rd.of_ownS hW.own).dropS hj hnc.1 (by rw [fdv_len, hlenF])
          have CA := Lib.hid (fun W (h : TwSt w W P pa pb A n c t t F) => twl_l h (F.drop j) q htl.out hDl.out)
          have CB := Lib.hid (fun W (h : TwSt w W P pa pb A n c t t F) => twl_r h (F.drop j) q htl.out hDl.out)
          have CS := Lib.hid (fun W A2 c2 (h2 : Rd W A2 (fdv (F.drop j))) (h : TwSt w W P pa pb A n c t t F) => twq h (F.drop j) q hDl.out A2 X c2 (c - j) h2 (HRX.out W h) hqb)
          have CU := Lib.hid (fun W (h : TwSt w W P pa pb A n c t t F) => twu_l h s htu.out)
          have CW := Lib.hid (fun W (h : TwSt w W P pa pb A n c t t F) => twa h)
          replace hX := Lib.hid hX
          replace hq := Lib.hid hq
          replace hgone := Lib.hid hgone
          clear hOk hmost hlenF
          rename_i a2 k2 q0 k1 a1 k0 a0
          clear a1 a2
          go_region_held3 (fun _ => True) (trivial) (first
            | (go_at_call 7; refine (CW.out _ S8).mono ?_; rintro e w9 ⟨rfl, S9⟩)
            | (go_at_call 13; refine (CU.out _ S7).mono ?_; rintro e w8 ⟨rfl, S8⟩)
            | (go_at_call 21; refine (CS.out _ _ _ R6 S6).mono ?_; rintro e w7 ⟨rfl, S7⟩)
            | (go_at_call 20; refine (CB.out _ S5).mono ?_; rintro e w6 ⟨A6, c6, rfl, R6, S6⟩)
            | (go_at_call 21; refine (CS.out _ _ _ R4 S4).mono ?_; rintro e w5 ⟨rfl, S5⟩)
            | (go_at_call 20; refine (CA.out _ (S3.out.bel (Still.drew _).below)).mono ?_; rintro e w4 ⟨A4, c4, rfl, R4, S4⟩))
          go_wp2_with fail
          go_ret
          exact ⟨rfl, S9.below⟩

theorem ttwins_any (m0 : Int) (l : List Fd) (A0 : Option Addr) (cap N : Nat) (w : World) (hN : l.length = N) (hr : Rd w A0 (fdv l)) (hb : N ≤ 9223372036854775807) (hsz : ∀ x ∈ l, x.name.size ≤ reachBytes ∧ x.value.size ≤ reachBytes) :
    Calls Try.prog 4 #[.int .i64 m0, .slice A0 N cap] w fun e w' => e = .returned (.bool true) ∧ Below w.heap.size w w' := by
  by_cases h : N ≤ 40
  · exact ttwins_in m0 l A0 cap N w hN hr h hsz
  · have b2 : decide ((40 : Int) < (N : Int)) = true := decide_eq_true (by omega)
    clear hN hr hsz
    go_enter Try.func4, Try.ntmps4
    go_wp2_with fail
    refine (awake_any _).mono ?_
    rintro e wf ⟨rfl, hbf⟩
    go_wp2_with fail
    go_ret
    exact ⟨rfl, hbf⟩
end Go.Proofs.Ytgcnhppafclnmaa
