/- FieldsRounds: it is true at every input. -/
import Derived.Test.YtjkimabcpamdcaaFsE
import Derived.Test.YtjkimabcpamdcaaFdR
import Derived.Deep.RegionHeld3
namespace Go.Proofs.Ytjkimabcpamdcaa
open Go.RowKit

theorem fput_err (fs : List Fd) (h : (fput fs).2 ≠ 0) : (fput fs).1 = [] := by
  unfold fput at h ⊢
  split
  · rfl
  · rename_i h1
    rw [if_neg h1] at h
    split
    · rename_i h2; rw [if_pos h2] at h; exact absurd rfl h
    · rfl
theorem fput_inv (fs : List Fd) (h : (fput fs).2 = 0) : fput fs = (0 :: 0 :: flines fs, 0) ∧ fs.length ≤ 16 ∧ ∀ f ∈ fs, fok f = true ∧ f.value.size ≤ 400 := by
  unfold fput at h ⊢
  split
  · rename_i h1; rw [if_pos h1] at h; simp at h
  · rename_i h1
    rw [if_neg h1] at h
    split
    · rename_i h2
      simp only [Bool.or_eq_true, decide_eq_true_eq, List.any_eq_true, not_or, not_exists, not_and] at h1
      exact ⟨rfl, by omega, fun f hf => ⟨List.all_eq_true.1 h2 f hf, by have := h1.2 f hf; omega⟩⟩
    · rename_i h2; rw [if_neg h2] at h; simp at h
def fsz (fs : List Fd) (k : Nat) : Nat := ((fs.take k).map fun f => f.name.size + f.value.size).sum
theorem fsz_succ (fs : List Fd) (k : Nat) (h : k < fs.length) : fsz fs (k + 1) = fsz fs k + (fs[k].name.size + fs[k].value.size) := by
  unfold fsz; rw [← List.take_append_getElem h, List.map_append, List.sum_append]; simp
theorem sum_mem {l : List Nat} {x : Nat} (h : x ∈ l) : x ≤ l.sum := by
  induction l with
  | nil => cases h
  | cons y l ih =>
    rw [List.sum_cons]
    rcases List.mem_cons.1 h with rfl | h
    · omega
    · have := ih h; omega
theorem fsz_mem (fs : List Fd) (f : Fd) (h : f ∈ fs) : f.name.size + f.value.size ≤ fsz fs fs.length := by
  unfold fsz; rw [List.take_length]
  exact sum_mem (List.mem_map.2 ⟨f, h, rfl⟩)
theorem bv_set (l : List UInt8) (m : Nat) (x : UInt8) : bv (l.set m x) = (bv l).set m (.int .u8 x.toNat) := by simp [bv, List.map_set]

theorem fgl_len : ∀ (f : Nat) (l : List UInt8) (acc : List Fd), acc.length ≤ 16 → (fgl f l acc).1.length ≤ 16
  | f, [], acc, h => by rw [fgl_nil]; exact h
  | 0, _ :: _, acc, h => h
  | f + 1, x :: r, acc, h => by
    rw [fgl_cons]
    split
    · simp
    · split
      · simp
      · exact fgl_len f _ _ (by rw [List.length_append]; simp; omega)
theorem fget_len (l : List UInt8) : (fget l).1.length ≤ 16 := by
  unfold fget
  split
  · simp
  · split
    · simp
    · exact fgl_len _ _ _ (by simp)

set_option maxRecDepth 100000 in
set_option maxHeartbeats 8000000 in
theorem rounds_in (fs : List Fd) (at0 by0 : Int) (hb0 : 0 ≤ by0) (hb1 : by0 ≤ 255) (A : Option Addr) (cap N : Nat) (w : World) (hN : fs.length = N) (hr : Rd w A (fdv fs)) (hNb : N ≤ 9223372036854775807) (hsz : ∀ x ∈ fs, x.name.size ≤ reachBytes ∧ x.value.size ≤ reachBytes) :
    Calls Try.prog 3 #[.slice A N cap, .int .i64 at0, .int .u8 by0] w fun e w' => e = .returned (.bool true) ∧ Below w.heap.size w w' := by
  have HR := Lib.hid hr
  replace hsz := Lib.hid hsz
  replace hN := Lib.hid hN
  replace hb0 := Lib.hid hb0
  replace hb1 := Lib.hid hb1
  clear hr
  go_enter Try.func3, Try.ntmps3
  go_wp2_with fail
  go_loopw [7, 8] (fun v i wr => ∃ k s : Nat, k ≤ N ∧ k ≤ 21 ∧ s ≤ k * 281474976710656 ∧ v = .int .i64 s ∧ i = .int .i64 k ∧ Hid (Still w wr ∧ fsz fs k = s)) (fun _ i _ => 21 - (intOf i).toNat)
  case atStart => exact ⟨0, 0, by omega, by omega, by omega, rfl, rfl, Lib.hid ⟨Still.refl _, by simp [fsz]⟩⟩
  case round =>
    obtain ⟨k, s, hk, hk21, hs, rfl, rfl, HS⟩ := hrel
    by_cases hkk : k < N ∧ k < 21
    · rename_i aa; clear aa
      obtain ⟨hkN, hk2⟩ := hkk
      have hkl : k < fs.length := by rw [hN.out]; exact hkN
      obtain ⟨b0, o0, rfl, x0, x1⟩ := load_fd (HS.out.1.rd HR.out) hkl
      have hszk := hsz.out _ (List.getElem_mem hkl)
      have hsum := fsz_succ fs k hkl
      obtain ⟨f, hf⟩ : ∃ f, fs[k] = f := ⟨_, rfl⟩
      rw [hf] at x0 x1 hszk hsum
      obtain ⟨a, b⟩ := f
      simp only at x0 x1 hszk hsum
      obtain ⟨sa, hsa⟩ : ∃ sa, a.size = sa := ⟨_, rfl⟩
      obtain ⟨sb, hsb⟩ : ∃ sb, b.size = sb := ⟨_, rfl⟩
      have hq : sa ≤ 140737488351232 ∧ sb ≤ 140737488351232 := by
        rw [← hsa, ← hsb]; have := hszk; unfold reachBytes at this; exact ⟨by omega, by omega⟩
      obtain ⟨hq1, hq2⟩ := hq
      have hs2 : s ≤ 5910974510923776 := by omega
      have HS2 : Hid (fsz fs (k + 1) = s + sa + sb) := Lib.hid (by rw [hsum, HS.out.2, hsa, hsb]; omega)
      have HS1 := Lib.hid HS.out.1
      have hkI : (k : Int) < (N : Int) := by omega
      have hkI2 : (k : Int) < 21 := by omega
      have e1 : decide ((k : Int) < (N : Int)) = true := decide_eq_true hkI
      have e2 : decide ((k : Int) < 21) = true := decide_eq_true hkI2
      replace hf := Lib.hid hf
      clear hszk hsum HS
      go_wp2_with fail
      go_region_held3 (fun W => W.cell? ⟨b0, o0 + k * 2, none⟩ = some (.string a) ∧ W.cell? ⟨b0, o0 + k * 2 + 1, none⟩ = some (.string b)) (first | assumption | go_keep) (fail)
      go_wp2_with fail
      go_roundw
      case rel => exact ⟨k + 1, s + sa + sb, by omega, by omega, by omega, by congr 1; rw [IntKind.wrap_i64, IntKind.wrap_i64]; omega, by go_num, Lib.hid ⟨HS1.out.trans (Still.drew _), HS2.out⟩⟩
      case measure => simp [intOf]; omega
    · have HB := Lib.hid HS.out.1.below
      by_cases hkN : k < N
      · obtain rfl : k = 21 := by omega
        have e1 : decide ((21 : Int) < (N : Int)) = true := decide_eq_true (by omega)
        have e1' : decide (21 < N) = true := decide_eq_true (by omega)
        have e2 : decide ((16 : Int) < (N : Int)) = true := decide_eq_true (by omega)
        have e2' : decide (16 < N) = true := decide_eq_true (by omega)
        have hNI : (21 : Int) < (N : Int) := by omega
        clear HS
        go_wp2_with fail
        refine (awake_any _).mono ?_
        rintro e wf ⟨rfl, hbf⟩
        go_wp2_with fail
        go_ret
        exact ⟨rfl, HB.out.trans (hbf.mono HB.out.size)⟩
      · obtain rfl : k = N := by omega
        by_cases h16 : 16 < k
        · have e2 : decide ((16 : Int) < (k : Int)) = true := decide_eq_true (by omega)
          have e2' : decide (16 < k) = true := decide_eq_true h16
          clear HS
          go_wp2_with fail
          refine (awake_any _).mono ?_
          rintro e wf ⟨rfl, hbf⟩
          go_wp2_with fail
          go_ret
          exact ⟨rfl, HB.out.trans (hbf.mono HB.out.size)⟩
        · have e2 : decide ((16 : Int) < (k : Int)) = false := decide_eq_false (by omega)
          have e2' : decide (16 < k) = false := decide_eq_false h16
          by_cases h2000 : 2000 < s
          · have e3 : decide ((2000 : Int) < (s : Int)) = true := decide_eq_true (by omega)
            have e3' : decide (2000 < s) = true := decide_eq_true h2000
            clear HS
            go_wp2_with fail
            refine (awake_any _).mono ?_
            rintro e wf ⟨rfl, hbf⟩
            go_wp2_with fail
            go_ret
            exact ⟨rfl, HB.out.trans (hbf.mono HB.out.size)⟩
          · have e3 : decide ((2000 : Int) < (s : Int)) = false := decide_eq_false (by omega)
            have e3' : decide (2000 < s) = false := decide_eq_false h2000
            have hfz : ∀ f ∈ fs, f.name.size ≤ 2000 ∧ f.value.size ≤ 2000 := fun f hf => by
              have h1 := fsz_mem fs f hf
              have h2 := HS.out.2
              rw [hN.out] at h1
              omega
            have hal : Hid (∀ f ∈ fs, f.name.size ≤ 1000000 ∧ f.value.size ≤ 1000000) := Lib.hid (fun f hf => by have := hfz f hf; omega)
            have R0 := Lib.hid (HS.out.1.rd HR.out)
            clear hfz HS
            go_wp2_with (at_builtin; refine Hid.out ?_)
            refine Lib.hid ?_
            refine wpList_appSN rfl _ _ 22 rfl wr.heap.size 24 _ 2 32 infoF Try.underlying22 rfl (by decide) (.slice none 0 0) 0 [] rfl (World.ownsRow_nil _ _ _ _) A k cap (fdv fs) rfl (by rw [fdv_len, hN.out]) R0.out (fdv_one _) (by unfold maxLen; omega) (by omega) (Nat.le_refl _) ?_
            intro A3 c3 w3 o3 g3
            simp only [Nat.zero_add, List.nil_append] at o3 ⊢
            have b3 := (Below.refl _ wr).grown g3 (Nat.le_refl _) (fun q hq => by simp [Value.ownBlock] at hq)
            have B3 := Lib.hid (HB.out.trans (b3.mono HB.out.size))
            have R3 := Lib.hid (R0.out.below b3)
            have PU := fput_any fs A3 c3 k w3 hN.out (Rd.of_ownS o3) (by omega) hal.out
            obtain ⟨⟨D, er⟩, hD⟩ : ∃ q, fput fs = q := ⟨_, rfl⟩
            obtain ⟨Lb, hLb⟩ : ∃ Lb, D.length = Lb := ⟨_, rfl⟩
            rw [hD] at PU
            unfold RetP at PU
            simp only [hLb] at PU
            have herr := fput_err fs
            have hinv := fput_inv fs
            rw [hD] at herr hinv
            simp only at herr hinv
            replace PU := Lib.hid PU
            clear o3 g3 b3 R0 hal HB
            by_cases he : er = 0
            · subst he
              obtain ⟨i1, i2, i3⟩ := hinv rfl
              have hDe : D = 0 :: 0 :: flines fs := by injection i1
              have hget : fget D = (fs, 0) := by rw [hDe]; exact fget_flines fs i3 i2
              have hLb2 : 2 ≤ Lb := by rw [← hLb, hDe]; simp
              have hLb8 : Lb ≤ 8002 := by
                have h1 := flines_len fs (fun f hf => ⟨nameok_size (by have := (i3 f hf).1; unfold fok at this; rw [Bool.and_eq_true] at this; exact this.1), (i3 f hf).2⟩)
                rw [← hLb, hDe, List.length_cons, List.length_cons]
                omega
              have dLb : decide (Lb < 2) = false := decide_eq_false (by omega)
              have dLb' : decide ((Lb : Int) < 2) = false := decide_eq_false (by omega)
              replace hget := Lib.hid hget
              replace hLb := Lib.hid hLb
              clear herr hinv i1 i2 i3 hDe hD
              go_wp2_with fail
              refine PU.out.mono ?_
              rintro e w4 ⟨A4, c4, rfl, o4, b4⟩
              have B4 := Lib.hid (B3.out.trans (b4.mono B3.out.size))
              have R4 := Lib.hid (R3.out.below b4)
              have hc4 := RetS.cap o4
              have RD4 := Lib.hid (Rd.of_own o4)
              have G5 := fget_any D A4 c4 Lb w4 hLb.out RD4.out hc4.1 hc4.2 (by omega)
              rw [hget.out] at G5
              unfold RetG at G5
              simp only [hN.out] at G5
              replace G5 := Lib.hid G5
              clear PU B3 R3 o4 b4
              go_wp2_with fail
              refine G5.out.mono ?_
              rintro e w5 ⟨A5, c5, rfl, o5, b5⟩
              have B5 := Lib.hid (B4.out.trans (b5.mono B4.out.size))
              have SF := Lib.hid (samef_n true fs fs k k hN.out hN.out A5 A c5 cap w5 (Rd.of_ownS o5) (R4.out.below b5) (by omega) (by omega) (decide_eq_true rfl))
              have RD5 := Lib.hid (RD4.out.below b5)
              clear G5 B4 R4 RD4 o5 b5
              go_wp2_with fail
              refine SF.out.mono ?_
              rintro e w6 ⟨rfl, ST⟩
              have B6 := Lib.hid (B5.out.trans (ST.below.mono B5.out.size))
              have CP := copied_any D A4 c4 w6 (ST.rd RD5.out) (by rw [hLb.out]; omega)
              rw [hLb.out] at CP
              replace CP := Lib.hid CP
              clear SF ST B5 RD5
              go_wp2_with fail
              refine CP.out.mono ?_
              rintro e w7 ⟨A7, c7, rfl, o7, b7⟩
              have B7 := Lib.hid (B6.out.trans (b7.mono B6.out.size))
              obtain ⟨g, cg, hv, hgb, hglt⟩ := o7.form (by omega)
              injection hv with hv1 hv2 hv3
              subst hv1
              have hc7 := RetS.cap o7
              have hgw : w.heap.size ≤ g := by have := B6.out.size; omega
              have RD7 := Lib.hid (Rd.of_own o7)
              obtain ⟨m, hm, LW⟩ := low_ex at0 Lb (by omega) (by omega)
              replace LW := Lib.hid LW
              replace o7 := Lib.hid o7
              have hcut := cut_h (P := Try.prog) Try.underlying26 infoB (some ⟨g, 0, none⟩) Lb c7 m (by omega)
              have hmI : (m : Int) < (Lb : Int) := by omega
              have hmc : (m : Int) ≤ (c7 : Int) := by omega
              have hlm : Hid ((D.take m).length = m) := Lib.hid (by rw [List.length_take, hLb.out]; omega)
              obtain ⟨⟨xs, e1⟩, hx⟩ : ∃ q, fget (D.take m) = q := ⟨_, rfl⟩
              obtain ⟨lx, hlx⟩ : ∃ lx, xs.length = lx := ⟨_, rfl⟩
              have hlx16 : lx ≤ 16 := by have := fget_len (D.take m); rw [hx] at this; rw [← hlx]; exact this
              have G8 := fget_any (D.take m) (some ⟨g, 0, none⟩) c7 m w7 hlm.out (RD7.out.take_bytes m) (by omega) hc7.2 (by omega)
              rw [hx] at G8
              unfold RetG at G8
              simp only [hlx] at G8
              replace G8 := Lib.hid G8
              replace hx := Lib.hid hx
              replace hlx := Lib.hid hlx
              clear CP B6 b7 dLb dLb' hv2 hv3 hgb
              go_wp2_with fail
              refine (LW.out _).mono ?_
              rintro e w8 ⟨rfl, rfl⟩
              clear LW
              go_wp2_with fail
              refine G8.out.mono ?_
              rintro e w9 ⟨A9, c9, rfl, o9, b9⟩
              have B9 := Lib.hid (B7.out.trans (b9.mono B7.out.size))
              have RD9 := Lib.hid (RD7.out.below b9)
              have G9 := rfget_any (D.take m) (some ⟨g, 0, none⟩) c7 m w9 hlm.out (RD9.out.take_bytes m) (by omega) hc7.2 (by omega)
              rw [hx.out] at G9
              unfold RetG at G9
              simp only [hlx.out] at G9
              replace G9 := Lib.hid G9
              have O9 := Lib.hid (own_fr o7.out (Fr.of_below b9 NoS) (fun _ _ x => x))
              replace o9 := Lib.hid (own_base o9 (base2 := w7.heap.size) (fun k hk => (o9.lt k hk).1))
              have hs9 := b9.size
              clear G8 b9 RD7 B7
              go_wp2_with fail
              refine G9.out.mono ?_
              rintro e w10 ⟨A10, c10, rfl, o10, b10⟩
              have B10 := Lib.hid (B9.out.trans (b10.mono B9.out.size))
              have O10 := Lib.hid (own_fr O9.out (Fr.of_below b10 NoS) (fun _ _ x => x))
              have z0 := O10.out.cellAt m (by simp [hLb.out]; omega)
              rw [List.getElem?_eq_getElem (by rw [bv_length, hLb.out]; omega)] at z0
              obtain ⟨u, hu⟩ : ∃ u, some ((bv D)[m]'(by rw [bv_length, hLb.out]; omega)) = some u := ⟨_, rfl⟩
              rw [hu] at z0
              have z1 := O10.out.frozenAt m
              have hs10 := b10.size
              have hO11 : Hid (∀ W, W = w10.setCell ⟨g, m, none⟩ (.int .u8 by0) → Below w.heap.size w W ∧ W.ownsRow w6.heap.size 5 1 (.slice (some ⟨g, 0, none⟩) Lb c7) Lb (bv (D.set m (UInt8.ofNat by0.toNat))) ∧ Rd W A9 (fdv xs) ∧ Rd W A10 (fdv xs)) := Lib.hid (by
                rintro W rfl
                have F11 : Fr (fun k => k = g) w10 (w10.setCell ⟨g, m, none⟩ (.int .u8 by0)) := (Fr.refl (fun k => k = g) w10).setCell (p := ⟨g, m, none⟩) (fun _ => rfl) _
                refine ⟨Fr.under B10.out B10.out.size F11 (fun k hk _ => by omega), ?_, ((Rd.of_ownS o9.out).below b10).fr F11 (fun _ a ha e => ?_), (Rd.of_ownS o10).fr F11 (fun _ a ha e => ?_)⟩
                · have h1 := (O10.out.stored m (.int .u8 by0)).1
                  rw [bv_set, ofNat_val by0 hb0.out hb1.out]
                  exact h1
                · subst ha
                  have := (o9.out.lt a.block rfl).1
                  omega
                · subst ha
                  have := (o10.lt a.block rfl).1
                  omega)
              have hl2 : Hid ((D.set m (UInt8.ofNat by0.toNat)).length = Lb) := Lib.hid (by rw [List.length_set]; exact hLb.out)
              obtain ⟨D2, hD2⟩ : ∃ D2, D.set m (UInt8.ofNat by0.toNat) = D2 := ⟨_, rfl⟩
              rw [hD2] at hO11 hl2
              obtain ⟨⟨zs, e2⟩, hz⟩ : ∃ q, fget D2 = q := ⟨_, rfl⟩
              obtain ⟨lz, hlz⟩ : ∃ lz, zs.length = lz := ⟨_, rfl⟩
              have hlz16 : lz ≤ 16 := by have := fget_len D2; rw [hz] at this; rw [← hlz]; exact this
              have G12 := Lib.hid (fun W (h : Rd W (some ⟨g, 0, none⟩) (bv D2)) => fget_any D2 (some ⟨g, 0, none⟩) c7 Lb W hl2.out h hc7.1 hc7.2 (by omega))
              have G13 := Lib.hid (fun W (h : Rd W (some ⟨g, 0, none⟩) (bv D2)) => rfget_any D2 (some ⟨g, 0, none⟩) c7 Lb W hl2.out h hc7.1 hc7.2 (by omega))
              rw [hz] at G12 G13
              unfold RetG at G12 G13
              simp only [hlz] at G12 G13
              replace hz := Lib.hid hz
              replace hlz := Lib.hid hlz
              replace hD2 := Lib.hid hD2
              replace hu := Lib.hid hu
              clear G9 b10 O9 O10 RD9 B9 B10 o9 o10 o7
              go_wp2_with fail
              have K11 := hO11.out _ rfl
              obtain ⟨w11, hw11⟩ : ∃ w11, w10.setCell ⟨g, m, none⟩ (.int .u8 by0) = w11 := ⟨_, rfl⟩
              rw [hw11] at K11 ⊢
              obtain ⟨B11, o11, R9, R10⟩ := K11
              have RD11 := Rd.of_own o11
              clear hw11 hO11 z0 z1
              refine (G12.out w11 RD11).mono ?_
              rintro e w12 ⟨A12, c12, rfl, o12, b12⟩
              have B12 := Lib.hid (B11.trans (b12.mono B11.size))
              have RD12 := Lib.hid (RD11.below b12)
              replace R9 := Lib.hid (R9.below b12)
              replace R10 := Lib.hid (R10.below b12)
              have R12 := Lib.hid (Rd.of_ownS o12)
              clear o12 b12 B11 o11 RD11
              go_wp2_with fail
              refine (G13.out w12 RD12.out).mono ?_
              rintro e w13 ⟨A13, c13, rfl, o13, b13⟩
              have B13 := Lib.hid (B12.out.trans (b13.mono B12.out.size))
              have R13 := Lib.hid (Rd.of_ownS o13)
              have R12' := Lib.hid (R12.out.below b13)
              have S1 := Lib.hid (samef_n true xs xs lx lx hlx.out hlx.out A9 A10 c9 c10 w13 (R9.out.below b13) (R10.out.below b13) (by omega) (by omega) (decide_eq_true rfl))
              clear o13 b13 R9 R10 R12 B12 RD12
              go_wp2_with fail
              refine S1.out.mono ?_
              rintro e w14 ⟨rfl, ST1⟩
              have B14 := Lib.hid (B13.out.trans (ST1.below.mono B13.out.size))
              have S2 := Lib.hid (samef_n true zs zs lz lz hlz.out hlz.out A12 A13 c12 c13 w14 (ST1.rd R12'.out) (ST1.rd R13.out) (by omega) (by omega) (decide_eq_true rfl))
              clear ST1 S1 B13 R12' R13
              go_wp2_with fail
              refine S2.out.mono ?_
              rintro e w15 ⟨rfl, ST2⟩
              have B15 := Lib.hid (B14.out.trans (ST2.below.mono B14.out.size))
              clear ST2 S2 B14
              go_wp2_with fail
              refine (awake_any _).mono ?_
              rintro e w16 ⟨rfl, b16⟩
              have B16 := Lib.hid (B15.out.trans (b16.mono B15.out.size))
              clear b16
              go_wp2_with fail
              go_ret
              exact ⟨rfl, B16.out⟩
            · have hD0 := herr he
              subst hD0
              obtain rfl : Lb = 0 := by rw [← hLb]; rfl
              have d2 : (er != 0) = true := by rw [bne_iff_ne]; exact he
              clear herr hinv hD
              go_wp2_with fail
              refine PU.out.mono ?_
              rintro e w4 ⟨A4, c4, rfl, o4, b4⟩
              have HB := Lib.hid (B3.out.trans (b4.mono B3.out.size))
              clear o4 b4 PU
              go_wp2_with fail
              refine (awake_any _).mono ?_
              rintro e wf ⟨rfl, hbf⟩
              go_wp2_with fail
              go_ret
              exact ⟨rfl, HB.out.trans (hbf.mono HB.out.size)⟩
end Go.Proofs.Ytjkimabcpamdcaa
