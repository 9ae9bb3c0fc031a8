/- The document's own Out: Next, where there is something. -/
import Derived.Test.YtljpboikjhckiaaOrD
import Derived.Deep.CutBlock
namespace Go.Proofs.Ytljpboikjhckiaa
open Go.RowKit
section
variable {w w' : World} {p g n : Nat} {AD : Option Addr} {cD : Nat} {D S : List UInt8}
theorem u8y {v x : UInt8} {vi : Int} (hvi : (v.toNat : Int) = vi) (h : v = x) : (vi == (x.toNat : Int)) = true := by
  subst h; rw [hvi, beq_self_eq_true]

set_option maxRecDepth 100000 in
set_option maxHeartbeats 16000000 in
theorem rNext_go (h : IsRo w p g n AD cD D S) (room allow : Int) (a m : Nat) (hr0 : -9223372036854775808 ≤ room) (hr1 : room ≤ 9223372036854775807) (ha0 : -9223372036854775808 ≤ allow) (ha1 : allow ≤ 9223372036854775807)
    (hn : onext S n (max room 0) allow = ((a : Int), (m : Int), true)) (han : a + m ≤ n) (eb : Bool) (he : oend S n a m = eb) (r : Int × List UInt8 × Bool × Bool × List UInt8)
    (hr : r = if m = 0 ∧ eb = false then ((0 : Int), [], false, false, S) else ((a : Int), (D.drop a).take m, eb, true, if eb then (marks S a m).set n 1 else marks S a m)) :
    Calls Try.prog 14 #[.pointer (some ⟨p, 0, none⟩), .int .i64 room, .int .i64 allow] w (RNextPost p g n AD cD D w r) := by
  have c0 := wrote_cell h.cell 0 _ rfl
  have c1 := wrote_cell h.cell 1 _ rfl
  have hs := h.small
  have hl := h.lS
  have hcap := h.cap
  have HA := Lib.hid h.at_
  have g1 := h.at_ n (by omega)
  obtain ⟨v, hv⟩ : ∃ v, S[n]'(by omega) = v := ⟨_, rfl⟩
  have hv' : S[n]? = some v := by rw [List.getElem?_eq_getElem (by omega), hv]
  rw [hv] at g1
  obtain ⟨vi, hvi⟩ : ∃ vi : Int, (v.toNat : Int) = vi := ⟨_, rfl⟩
  rw [hvi] at g1
  obtain ⟨R, hR⟩ : ∃ R, R = max room 0 := ⟨_, rfl⟩
  have HM := fun ts t w => run_max2 (P := Try.prog) room 0 R hR ts t w
  have CL := Lib.hid (rfirst_any h 2 2 rfl)
  have CF := Lib.hid (rfirst_any h 0 0 rfl)
  have hlt : (S.take n).length = n := by simp; omega
  rw [← hR] at hn
  have hR0 : 0 ≤ R := by omega
  have hR1 : R ≤ 9223372036854775807 := by omega
  have hcs := onext_some hl hv' hR0 hn
  rw [oend_val hv'] at he
  obtain ⟨x2, hx2⟩ : ∃ x2, fidb (S.take n) 2 = x2 := ⟨_, rfl⟩
  obtain ⟨x0, hx0⟩ : ∃ x0, fidb (S.take n) 0 = x0 := ⟨_, rfl⟩
  rw [hx2] at CL
  rw [hx0] at CF
  have HC : Hid ((x2 = a ∧ a < n ∧ (m : Int) ≤ R ∧ (∀ j, j < m → S[a + j]? = some 2) ∧ (a + m < n → (m : Int) < R → S[a + m]? ≠ some 2)) ∨
      (x2 = -1 ∧ v = 2 ∧ a = n ∧ m = 0) ∨
      (x2 = -1 ∧ v ≠ 2 ∧ x0 = a ∧ a < n ∧ (a : Int) < allow ∧ (m : Int) ≤ R ∧ (a : Int) + m ≤ allow ∧ (∀ j, j < m → S[a + j]? = some 0) ∧ (a + m < n → (m : Int) < R → (a : Int) + m < allow → S[a + m]? ≠ some 0)) ∨
      (x2 = -1 ∧ v ≠ 2 ∧ x0 = -1 ∧ v = 0 ∧ a = n ∧ m = 0)) := Lib.hid (by
    rcases hcs with ⟨k1, k2, k3, k4, k5, k6⟩ | ⟨k1, k2, k3, k4⟩ | ⟨k1, k2, k3, k4, k5, k6, k7, k8, k9, k10⟩ | ⟨k1, k2, k3, k4, k5, k6⟩
    · exact .inl ⟨by rw [← hx2, fidb_yes (by omega), k2], by omega, k3, k5, k6⟩
    · exact .inr (.inl ⟨by rw [← hx2, fidb_no (by omega)], k2, k3, k4⟩)
    · exact .inr (.inr (.inl ⟨by rw [← hx2, fidb_no (by omega)], k2, by rw [← hx0, fidb_yes (by omega), k5], by omega, by omega, k6, k7, k9, k10⟩))
    · exact .inr (.inr (.inr ⟨by rw [← hx2, fidb_no (by omega)], k2, by rw [← hx0, fidb_no (by omega)], k4, k5, k6⟩)))
  obtain ⟨X, K, qX⟩ := cut_lhI (P := Try.prog) Try.underlying22 infoB AD n cD a (a + m) (a : Int) ((a : Int) + m) rfl (by omega) (by omega) (by omega)
  rw [Nat.add_sub_cancel_left] at K
  have hlD := h.lD
  have hXl : ((D.drop a).take m).length = m := by simp; omega
  replace qX := Lib.hid qX
  replace hl := Lib.hid hl
  replace hlD := Lib.hid hlD
  replace hXl := Lib.hid hXl
  replace hvi := Lib.hid hvi
  replace he := Lib.hid he
  replace hr := Lib.hid hr
  have H := Lib.hid h
  clear hcs hR hn hlt hx2 hx0 hv hv' h
  go_enter Try.func14, Try.ntmps14
  go_wp2_with fail
  refine CL.out.mono ?_
  rintro e w' ⟨rfl, rfl⟩
  go_wp2_with fail
  refine CF.out.mono ?_
  rintro e w' ⟨rfl, rfl⟩
  go_upto_block 0 with fail
  go_cut [11, 12] from 30 to 115 (fun x y wx => x = .int .i64 a ∧ y = .int .i64 ((a : Int) + m) ∧ w = wx)
  case first =>
    rcases HC.out with ⟨rfl, k2, k3, KT, KE⟩ | ⟨rfl, k2, rfl, k4⟩ | ⟨rfl, k2, rfl, k4, k5, k6, k7, KT, KE⟩ | ⟨rfl, k2, rfl, k4, rfl, k6⟩
    · skip
      replace KT := Lib.hid KT
      replace KE := Lib.hid KE
      clear HC
      go_wp2_with fail
      go_loop [12] (fun i => ∃ k : Nat, k ≤ m ∧ i = .int .i64 ((a : Int) + k)) (fun i => a + m - (intOf i).toNat)
      case atStart => exact ⟨0, by omega, by go_num⟩
      case round =>
        obtain ⟨k, hk, rfl⟩ := hrel
        have hak : a + k < S.length := by have := hl.out; omega
        have g2 := HA.out (a + k) hak
        obtain ⟨y, hy⟩ : ∃ y, S[a + k] = y := ⟨_, rfl⟩
        have hy' : S[a + k]? = some y := by rw [List.getElem?_eq_getElem hak, hy]
        rw [hy] at g2
        obtain ⟨yi, hyi⟩ : ∃ yi : Int, (y.toNat : Int) = yi := ⟨_, rfl⟩
        rw [hyi] at g2
        have hsub : (a : Int) + k - a = k := by omega
        by_cases hkm : k < m
        · have hy2 : y = 2 := by have := KT.out k hkm; rw [hy'] at this; injection this
          have e1 : (yi == 2) = true := u8y hyi hy2
          have hn1 : (a : Int) + k < n := by omega
          have hk1 : (k : Int) < R := by omega
          replace hy2 := Lib.hid hy2
          clear hy hy' hyi
          go_wp2_with fail
          go_round
          case rel => exact ⟨k + 1, by omega, by go_num⟩
          case measure => simp [intOf]; omega
        · have hkm2 : k = m := by omega
          subst hkm2
          by_cases hn1 : (a : Int) + k < n
          · by_cases hk1 : (k : Int) < R
            · have hy2 : y ≠ 2 := fun e => KE.out (by omega) hk1 (by rw [hy', e])
              have e1 : (yi == 2) = false := u8i hyi hy2
              replace hy2 := Lib.hid hy2
              clear hy hy' hyi
              go_wp2_with fail
              go_meet
              exact ⟨rfl, rfl, rfl⟩
            · clear hy hy' hyi
              go_wp2_with fail
              go_meet
              exact ⟨rfl, rfl, rfl⟩
          · clear hy hy' hyi
            go_wp2_with fail
            go_meet
            exact ⟨rfl, rfl, rfl⟩
    · have e2 : (vi == 2) = true := u8y hvi.out k2
      have hm0 : (m : Int) = 0 := by omega
      replace k2 := Lib.hid k2
      clear HC
      go_wp2_with fail
      go_meet
      exact ⟨rfl, by rw [hm0]; go_num, rfl⟩
    · have e2 : (vi == 2) = false := u8i hvi.out k2
      replace k2 := Lib.hid k2
      replace KT := Lib.hid KT
      replace KE := Lib.hid KE
      clear HC
      go_wp2_with fail
      go_loop [12] (fun i => ∃ k : Nat, k ≤ m ∧ i = .int .i64 ((a : Int) + k)) (fun i => a + m - (intOf i).toNat)
      case atStart => exact ⟨0, by omega, by go_num⟩
      case round =>
        obtain ⟨k, hk, rfl⟩ := hrel
        have hak : a + k < S.length := by have := hl.out; omega
        have g2 := HA.out (a + k) hak
        obtain ⟨y, hy⟩ : ∃ y, S[a + k] = y := ⟨_, rfl⟩
        have hy' : S[a + k]? = some y := by rw [List.getElem?_eq_getElem hak, hy]
        rw [hy] at g2
        obtain ⟨yi, hyi⟩ : ∃ yi : Int, (y.toNat : Int) = yi := ⟨_, rfl⟩
        rw [hyi] at g2
        have hsub : (a : Int) + k - a = k := by omega
        by_cases hkm : k < m
        · have hy2 : y = 0 := by have := KT.out k hkm; rw [hy'] at this; injection this
          have e1 : (yi == 0) = true := u8y hyi hy2
          have hn1 : (a : Int) + k < n := by omega
          have hk1 : (k : Int) < R := by omega
          have hal : (a : Int) + k < allow := by omega
          replace hy2 := Lib.hid hy2
          clear hy hy' hyi
          go_wp2_with fail
          go_round
          case rel => exact ⟨k + 1, by omega, by go_num⟩
          case measure => simp [intOf]; omega
        · have hkm2 : k = m := by omega
          subst hkm2
          by_cases hn1 : (a : Int) + k < n
          · by_cases hal : (a : Int) + k < allow
            · by_cases hk1 : (k : Int) < R
              · have hy2 : y ≠ 0 := fun e => KE.out (by omega) hk1 hal (by rw [hy', e])
                have e1 : (yi == 0) = false := u8i hyi hy2
                replace hy2 := Lib.hid hy2
                clear hy hy' hyi
                go_wp2_with fail
                go_meet
                exact ⟨rfl, rfl, rfl⟩
              · clear hy hy' hyi
                go_wp2_with fail
                go_meet
                exact ⟨rfl, rfl, rfl⟩
            · clear hy hy' hyi
              go_wp2_with fail
              go_meet
              exact ⟨rfl, rfl, rfl⟩
          · clear hy hy' hyi
            go_wp2_with fail
            go_meet
            exact ⟨rfl, rfl, rfl⟩
    · have e2 : (vi == 2) = false := u8i hvi.out k2
      have e0 : (vi == 0) = true := u8y hvi.out k4
      have hm0 : (m : Int) = 0 := by omega
      replace k2 := Lib.hid k2
      replace k4 := Lib.hid k4
      clear HC
      go_wp2_with fail
      go_meet
      exact ⟨rfl, by rw [hm0]; go_num, rfl⟩
  case rest =>
    obtain ⟨rfl, rfl, rfl⟩ := hcut
    clear HC
    go_upto_region 16 with fail
    go_cut [15] from 116 to 148 (fun x wx => x = .bool eb ∧ w = wx)
    case first =>
      have hE := he.out
      by_cases hna : a + m = n
      · have hb1 : ((a : Int) + m == n) = true := beq_iff_eq.2 (by omega)
        rw [decide_eq_true hna, Bool.true_and] at hE
        have hve : ((vi == 0) = true ∧ eb = true) ∨ ((vi == 0) = false ∧ (vi == 2) = true ∧ eb = true) ∨ ((vi == 0) = false ∧ (vi == 2) = false ∧ eb = false) := by
          by_cases h0 : v = 0
          · exact .inl ⟨u8y hvi.out h0, by rw [← hE, h0]; rfl⟩
          · by_cases h2 : v = 2
            · exact .inr (.inl ⟨u8i hvi.out h0, u8y hvi.out h2, by rw [← hE, h2]; rfl⟩)
            · exact .inr (.inr ⟨u8i hvi.out h0, u8i hvi.out h2, by rw [← hE, decide_eq_false h0, decide_eq_false h2]; rfl⟩)
        clear hE
        rcases Nat.eq_zero_or_pos m with hm | hm
        · have hm1 : ¬ (a : Int) < a + m := by omega
          have hb2 : ((a : Int) == n) = true := beq_iff_eq.2 (by omega)
          have hm2 : ¬ 0 < m := by omega
          replace hm := Lib.hid hm
          replace hna := Lib.hid hna
          rcases hve with ⟨e0, rfl⟩ | ⟨e0, e2, rfl⟩ | ⟨e0, e2, rfl⟩
          all_goals (go_wp2_with fail; go_meet; exact ⟨rfl, rfl⟩)
        · have hm1 : (a : Int) < a + m := by omega
          replace hna := Lib.hid hna
          rcases hve with ⟨e0, rfl⟩ | ⟨e0, e2, rfl⟩ | ⟨e0, e2, rfl⟩
          all_goals (go_wp2_with fail; go_meet; exact ⟨rfl, rfl⟩)
      · have hb1 : ((a : Int) + m == n) = false := beq_eq_false_iff_ne.2 (by omega)
        rw [decide_eq_false hna, Bool.false_and] at hE
        subst hE
        clear he hr
        replace hna := Lib.hid hna
        go_wp2_with fail
        go_meet
        exact ⟨rfl, rfl⟩
    case rest =>
      obtain ⟨rfl, rfl⟩ := hcut
      by_cases hme : m = 0 ∧ eb = false
      · obtain ⟨hm0, rfl⟩ := hme
        have hR := hr.out
        rw [if_pos ⟨hm0, rfl⟩] at hR
        have hb : ((a : Int) + m == a) = true := beq_iff_eq.2 (by omega)
        replace hm0 := Lib.hid hm0
        replace hR := Lib.hid hR
        go_wp2_with fail
        rw [hR.out]
        exact bodyPost_ret (v := .tuple #[.int .i64 0, .slice none 0 0, .bool false, .bool false]) (by simp [results, Try.results14, go_sem]) rfl ⟨none, 0, rfl, World.ownsRow_nil _ _ _ _, H.out, Fr.refl _ _⟩
      · have hR := hr.out
        rw [if_neg hme] at hR
        replace hR := Lib.hid hR
        have hmb : ((a : Int) + m == a) = false ∨ eb = true := by
          cases eb with
          | true => exact .inr rfl
          | false => exact .inl (beq_eq_false_iff_ne.2 (fun e => hme ⟨by omega, rfl⟩))
        clear hme
        go_upto_region 17 with fail
        go_cut [155] from 149 to 154 (fun x wx => x = .bool false ∧ w = wx)
        case first =>
          rcases hmb with hb | rfl
          · obtain ⟨ne, hne⟩ : ∃ ne, (!eb) = ne := ⟨_, rfl⟩
            go_wp2_with fail
            go_meet
            exact ⟨rfl, rfl⟩
          · obtain ⟨mz, hmz⟩ : ∃ mz, ((a : Int) + m == a) = mz := ⟨_, rfl⟩
            cases mz
            all_goals (go_wp2_with fail; go_meet; exact ⟨rfl, rfl⟩)
        case rest =>
          clear hmb
          obtain ⟨rfl, rfl⟩ := hcut
          go_wp2_with fail
          go_loopw [16] (fun i wr => ∃ k : Nat, k ≤ m ∧ i = .int .i64 ((a : Int) + k) ∧ IsRo wr p g n AD cD D (marks S a k) ∧ Fr (· = g) w wr) (fun i _ => a + m - (intOf i).toNat)
          case atStart => exact ⟨0, by omega, by go_num, H.out, Fr.refl _ _⟩
          case round =>
            clear c0 c1 g1
            obtain ⟨k, hk, rfl, hJ, hG⟩ := hrel
            have c0 := wrote_cell hJ.cell 0 _ rfl
            have c1 := wrote_cell hJ.cell 1 _ rfl
            have hml : (marks S a k).length = n + 1 := by rw [marks_length]; exact hl.out
            by_cases hkm : k < m
            · have q1 := hJ.row.frozenAt (a + k)
              have q2 := hJ.at_ (a + k) (by omega)
              have hJ2 := Lib.hid (hJ.set (a + k) 1).1
              have hG2 := Lib.hid (hG.setCell (p := ⟨g, a + k, none⟩) (fun _ => rfl) (.int .i64 ((1 : UInt8).toNat : Int)))
              replace hJ := Lib.hid hJ
              replace hG := Lib.hid hG
              replace hml := Lib.hid hml
              go_wp2_with fail
              go_roundw
              case rel => exact ⟨k + 1, by omega, by go_num, hJ2.out, hG2.out⟩
              case measure => simp [intOf] <;> omega
            · have hkm2 : k = m := by omega
              subst hkm2
              cases eb with
              | true =>
                have q1 := hJ.row.frozenAt n
                have q2 := hJ.at_ n (by omega)
                have hJ2 := Lib.hid (hJ.set n 1).1
                have hG2 := Lib.hid (hG.setCell (p := ⟨g, n, none⟩) (fun _ => rfl) (.int .i64 ((1 : UInt8).toNat : Int)))
                have hpg := hJ.pg
                have RX := Lib.hid (qX.out.bytes hJ2.out.rd (by have := hlD.out; omega) (by have := hlD.out; omega))
                rw [Nat.add_sub_cancel_left] at RX
                replace hJ := Lib.hid hJ
                replace hG := Lib.hid hG
                replace hml := Lib.hid hml
                go_wp2_with (at_builtin; refine wpList_app _ rfl _ _ 22 rfl w.heap.size 5 (.int .u8 0) 1 infoB Try.underlying22 rfl (.slice none 0 0) 0 [] rfl (World.ownsRow_nil _ _ _ _) X k (cD - a) (bv ((D.drop a).take k)) rfl (by simp [hXl.out]) RX.out (bv_one _) (by unfold maxLen; omega) (by omega) hG2.out.size ?_; intro A' c' w' hown hgrow hat)
                go_wp2_with fail
                rw [hR.out]
                exact bodyPost_ret (v := .tuple #[.int .i64 a, .slice A' k c', .bool true, .bool true]) (by simp [results, Try.results14, go_sem]) rfl ⟨A', c', by simp only [hXl.out], by simp only [hXl.out]; simpa using hown, hJ2.out.fr ((Fr.refl NoS _).grown hgrow (fun j hj _ => by simp [Value.ownBlock] at hj)) (fun x => x) (fun x => x) (fun _ _ x => x), hG2.out.grown hgrow (fun j hj _ => by simp [Value.ownBlock] at hj)⟩
              | false =>
                have hJ2 := Lib.hid hJ
                have hG2 := Lib.hid hG
                have RX := Lib.hid (qX.out.bytes hJ2.out.rd (by have := hlD.out; omega) (by have := hlD.out; omega))
                rw [Nat.add_sub_cancel_left] at RX
                replace hJ := Lib.hid hJ
                replace hG := Lib.hid hG
                replace hml := Lib.hid hml
                go_wp2_with (at_builtin; refine wpList_app _ rfl _ _ 22 rfl w.heap.size 5 (.int .u8 0) 1 infoB Try.underlying22 rfl (.slice none 0 0) 0 [] rfl (World.ownsRow_nil _ _ _ _) X k (cD - a) (bv ((D.drop a).take k)) rfl (by simp [hXl.out]) RX.out (bv_one _) (by unfold maxLen; omega) (by omega) hG2.out.size ?_; intro A' c' w' hown hgrow hat)
                go_wp2_with fail
                rw [hR.out]
                exact bodyPost_ret (v := .tuple #[.int .i64 a, .slice A' k c', .bool false, .bool true]) (by simp [results, Try.results14, go_sem]) rfl ⟨A', c', by simp only [hXl.out], by simp only [hXl.out]; simpa using hown, hJ2.out.fr ((Fr.refl NoS _).grown hgrow (fun j hj _ => by simp [Value.ownBlock] at hj)) (fun x => x) (fun x => x) (fun _ _ x => x), hG2.out.grown hgrow (fun j hj _ => by simp [Value.ownBlock] at hj)⟩
theorem rNext_any (h : IsRo w p g n AD cD D S) (room allow : Int) (hr0 : -9223372036854775808 ≤ room) (hr1 : room ≤ 9223372036854775807) (ha0 : -9223372036854775808 ≤ allow) (ha1 : allow ≤ 9223372036854775807) :
    Calls Try.prog 14 #[.pointer (some ⟨p, 0, none⟩), .int .i64 room, .int .i64 allow] w (RNextPost p g n AD cD D w (oNext D S n room allow)) := by
  rcases onext_shape S n (max room 0) allow (by omega) h.lS with hn | ⟨a, m, hn, han⟩
  · have := rNext_no h room allow hr0 hr1 ha0 ha1 (by rw [hn])
    have e : oNext D S n room allow = (0, [], false, false, S) := by unfold oNext; rw [hn]; simp
    rw [e]; exact this
  · refine rNext_go h room allow a m hr0 hr1 ha0 ha1 hn han _ rfl _ ?_
    unfold oNext
    rw [hn]
    simp
end
end Go.Proofs.Ytljpboikjhckiaa
