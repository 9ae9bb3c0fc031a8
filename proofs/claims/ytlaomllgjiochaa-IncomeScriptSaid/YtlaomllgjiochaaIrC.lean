/- The document's Put: a piece goes in, or clashes; the contract. (Printed by gen_irC.py.) -/
import Derived.Test.YtlaomllgjiochaaIrB
import Derived.Test.YtlaomllgjiochaaIncH
import Derived.BigRegion
import Derived.Test.YtlaomllgjiochaaKept
import Derived.Deep.CutRange
import Derived.Deep.Cut
import Derived.Deep.CutBlock
namespace Go.Proofs.Ytlaomllgjiochaa
open Go.RowKit

theorem bne_eq_dec (a b : Int) : (a != b) = decide (a ≠ b) := by rw [Bool.eq_iff_iff]; simp
theorem eclash_tie (s : Inc) (t : Int) (e : Bool) (h : s.Ok) (k : s.Tie) (t0 : 0 ≤ t) : ((decide (0 ≤ s.en) && (decide (s.en < t) || (e && decide (t ≠ s.en)))) || (e && decide (t < s.got.length))) = eclash s t e := by
  have k1 := k.hi
  have k2 := k.en
  rw [Bool.eq_iff_iff]
  simp only [eclash, Bool.or_eq_true, Bool.and_eq_true, decide_eq_true_eq]
  constructor
  · rintro (⟨a, b⟩ | ⟨a, b⟩)
    · exact .inl ⟨a, b⟩
    · exact .inr ⟨a, by omega⟩
  · rintro (⟨a, b⟩ | ⟨a, b⟩)
    · exact .inl ⟨a, b⟩
    · by_cases h0 : 0 ≤ s.en
      · exact .inl ⟨h0, .inr ⟨a, by have := k2 h0; omega⟩⟩
      · exact .inr ⟨a, by omega⟩
theorem iput_tie (s : Inc) (off : Nat) (l : List UInt8) (e : Bool) (k : s.Tie) (hc : iclash s off l e = false) : (iput s off l e).Tie := by
  have k1 := k.hi
  have k2 := k.en
  have h1 : eclash s (off + l.length) e = false := by
    unfold iclash at hc
    rw [Bool.or_eq_false_iff] at hc
    exact hc.1
  have h2 : ¬ ((0 ≤ s.en ∧ (s.en < (off : Int) + l.length ∨ (e = true ∧ (off : Int) + l.length ≠ s.en))) ∨ (e = true ∧ (off : Int) + l.length < s.hi)) := fun x => by
    have := (eclash_iff s.en s.hi ((off : Int) + l.length) e).2 x
    unfold eclash at h1
    rw [this] at h1
    cases h1
  have hlen : (iput s off l e).got.length = if l = [] then s.got.length else max s.got.length (off + l.length) := by
    show (if l = [] then s.got else fills (s.got ++ List.replicate (off + l.length - s.got.length) none) off l l.length).length = _
    by_cases h : l = []
    · rw [if_pos h, if_pos h]
    · rw [if_neg h, if_neg h]; simp; omega
  have h0 : l = [] → (l.length : Int) = 0 := fun h => by rw [h]; rfl
  have hne : l ≠ [] → 0 < l.length := fun h => List.length_pos_iff.2 h
  constructor
  · rw [hlen]
    simp only [iput]
    cases e with
    | true =>
      simp only [if_true]
      simp at h2
      split
      · rename_i hl
        have := h0 hl
        omega
      · omega
    | false =>
      simp at h2
      simp only [Bool.false_eq_true, if_false]
      split
      · omega
      · rename_i hl
        have := hne hl
        omega
  · rw [hlen]
    simp only [iput]
    cases e with
    | true =>
      simp only [if_true]
      simp at h2
      intro h3
      split
      · rename_i hl
        have := h0 hl
        omega
      · omega
    | false =>
      simp at h2
      simp only [Bool.false_eq_true, if_false]
      intro h3
      split
      · omega
      · omega

set_option maxRecDepth 100000 in
set_option maxHeartbeats 2000000 in
theorem rput_neg (p : Nat) (x y : Value) (e : Bool) (off : Int) (w : World) (h : off < 0) :
    Calls Try.prog 17 #[.pointer (some ⟨p, 0, none⟩), .int .i64 off, x, .bool e] w fun r w' => r = .returned (.int .i64 2) ∧ w = w' := by
  go_enter Try.func17, Try.ntmps17
  go_wp2_with fail
  go_ret
  exact ⟨rfl, rfl⟩
set_option maxRecDepth 100000 in
set_option maxHeartbeats 2000000 in
theorem rput_bound (p cc : Nat) (vD vC : Value) (s : Inc) (off : Int) (A : Option Addr) (n : Nat) (e : Bool) (w : World) (h : IsRi w p vD vC s) (h0 : 0 ≤ off) (h1 : off ≤ 9223372036854775807) (hn : n ≤ 9223372036854775807) (hb : s.most < off ∨ s.most - off < n) :
    Calls Try.prog 17 #[.pointer (some ⟨p, 0, none⟩), .int .i64 off, .slice A n cc, .bool e] w fun r w' => r = .returned (.int .i64 11) ∧ w = w' := by
  have c0 := wrote_cell h.cell 0 _ rfl
  have k0 := h.ok.most0
  have k1 := h.ok.most1
  by_cases h2 : s.most < off
  · go_enter Try.func17, Try.ntmps17
    go_wp2_with fail
    go_ret
    exact ⟨rfl, rfl⟩
  · have h3 : s.most - off < n := by omega
    go_enter Try.func17, Try.ntmps17
    go_wp2_with fail
    go_ret
    exact ⟨rfl, rfl⟩

set_option maxRecDepth 100000 in
set_option maxHeartbeats 8000000 in
theorem rput_clash (p cc : Nat) (vD vC : Value) (s : Inc) (off : Nat) (A : Option Addr) (l : List UInt8) (e : Bool) (w : World) (h : IsRi w p vD vC s) (tie : s.Tie) (hr : Rd w A (bv l)) (hb : (off : Int) + l.length ≤ s.most) (hc : iclash s off l e = true) :
    Calls Try.prog 17 #[.pointer (some ⟨p, 0, none⟩), .int .i64 off, .slice A l.length cc, .bool e] w fun r w' => r = .returned (.int .i64 12) ∧ ∃ m, w' = w.drewN m := by
  have c0 := wrote_cell h.cell 0 _ rfl
  have c3 := wrote_cell h.cell 3 _ rfl
  have k0 := h.ok.most0
  have k1 := h.ok.most1
  have k2 := h.ok.len
  have k3 := h.ok.en0
  have k4 := h.ok.en1
  have z1 := wrote_cell h.cell 1 _ rfl
  have z2 := wrote_cell h.cell 2 _ rfl
  obtain ⟨ec, hec⟩ : ∃ ec, eclash s (off + l.length) e = ec := ⟨_, rfl⟩
  obtain ⟨ac, hac⟩ : ∃ ac, aclash (s.got.drop off) l = ac := ⟨_, rfl⟩
  have HE : Hid (((decide (0 ≤ s.en) && (decide (s.en < (off : Int) + l.length) || (e && decide ((off : Int) + l.length ≠ s.en)))) || (e && decide ((off : Int) + l.length < s.got.length))) = ec) := Lib.hid (by rw [← hec]; exact eclash_tie s _ e h.ok tie (by omega))
  have hcc : (ec || ac) = iclash s off l e := by rw [← hec, ← hac]; rfl
  rw [hc] at hcc
  replace hcc := Lib.hid hcc
  replace hac := Lib.hid hac
  have H := Lib.hid h
  replace tie := Lib.hid tie
  obtain ⟨AD, cD, rfl, hD1, hD2⟩ := own_shape w h.data
  obtain ⟨AC, cC, rfl, hC1, hC2⟩ := own_shape w h.came
  have HD0 := Lib.hid (Rd.of_own h.data)
  have HC0 := Lib.hid (Rd.of_own h.came)
  obtain ⟨n, hn⟩ : ∃ n, s.got.length = n := ⟨_, rfl⟩
  obtain ⟨E, hE⟩ : ∃ E, s.en = E := ⟨_, rfl⟩
  obtain ⟨M, hM⟩ : ∃ M, s.most = M := ⟨_, rfl⟩
  rw [hn] at z1 z2 k2 HE hD1 hC1
  rw [hE] at c3 k3 k4 HE
  rw [hM] at c0 k0 k1 k2 k4 hb
  replace hn := Lib.hid hn
  replace hE := Lib.hid hE
  replace hM := Lib.hid hM
  have hT0 : (off : Int) + l.length ≤ 1048576 := by omega
  obtain ⟨b1, hb1⟩ : ∃ b, decide (0 ≤ E) = b := ⟨_, rfl⟩
  obtain ⟨b2, hb2⟩ : ∃ b, decide (E < (off : Int) + l.length) = b := ⟨_, rfl⟩
  obtain ⟨b3, hb3⟩ : ∃ b, ((off : Int) + l.length != E) = b := ⟨_, rfl⟩
  obtain ⟨b4, hb4⟩ : ∃ b, decide ((off : Int) + l.length < n) = b := ⟨_, rfl⟩
  have hb3' : decide ((off : Int) + l.length ≠ E) = b3 := by rw [← hb3]; exact (bne_eq_dec _ _).symm
  rw [hb1, hb2, hb3', hb4] at HE
  clear h hec hc hb3'
  go_enter Try.func17, Try.ntmps17
  go_upto_region 6 with fail
  go_cut [70] from 35 to 69 (fun x wx => x = .bool ec ∧ w = wx)
  case first =>
    clear hac hcc HD0 HC0 H tie hn hE hM
    cases e <;> cases b1 <;> cases b2 <;> cases b3 <;> cases b4
    all_goals
      go_wp2_with fail
      go_meet
      exact ⟨by rw [← HE.out]; rfl, rfl⟩
  case rest =>
    obtain ⟨rfl, rfl⟩ := hcut
    clear hb1 hb2 hb3 hb4
    cases ec with
    | true =>
      clear HE hcc hac
      go_wp2_with fail
      go_ret
      exact ⟨rfl, 0, rfl⟩
    | false =>
      clear HE
      go_wp2_with fail
      go_loopw [10] (fun i wr => ∃ k m : Nat, k ≤ l.length ∧ i = .int .i64 k ∧ wr = w.drewN m ∧ Hid (aclash (s.got.drop (off + k)) (l.drop k) = ac)) (fun i _ => l.length - (intOf i).toNat)
      case atStart => exact ⟨0, 0, by omega, rfl, rfl, Lib.hid (by simpa using hac.out)⟩
      case round =>
        obtain ⟨k, m, hk, rfl, rfl, HT⟩ := hrel
        by_cases hkl : k < l.length
        · obtain ⟨b1, o1, rfl, g1⟩ := hr.at_ (k := k) (by simpa using hkl)
          simp only [bv, List.getElem_map] at g1
          by_cases hat : off + k < n
          · have hat2 : off + k < s.got.length := by rw [hn.out]; exact hat
            obtain ⟨b2, o2, rfl, g2⟩ := HC0.out.at_ (k := off + k) (by simpa using hat2)
            obtain ⟨b3, o3, rfl, g3⟩ := HD0.out.at_ (k := off + k) (by simpa using hat2)
            simp only [bo, gc, bv, gb, List.getElem_map] at g2 g3
            have HS := aclash_step s.got l (off + k) k hat2 hkl
            rw [HT.out] at HS
            obtain ⟨v, hv⟩ : ∃ v, s.got[off + k]'hat2 = v := ⟨_, rfl⟩
            obtain ⟨y, hy⟩ : ∃ v, l[k] = v := ⟨_, rfl⟩
            rw [hv] at g2 g3 HS
            rw [hy] at g1 HS
            have hd : decide ((off : Int) + k < n) = true := decide_eq_true (by omega)
            clear hv hy HT hat2
            cases v with
            | none =>
              rename_i aa; clear aa
              simp only [Option.isSome_none, Bool.false_and, Bool.false_or] at HS g2
              replace HS := Lib.hid HS
              go_wp2_with fail
              go_big_quiet (fail)
              go_wp2_with fail
              go_roundw
              case rel => exact ⟨k + 1, _, by omega, by go_num, rfl, Lib.hid HS.out.symm⟩
              case measure => simp [intOf]; omega
            | some d =>
              simp only [Option.isSome_some, Bool.true_and, Option.getD_some] at HS g2 g3
              by_cases hdy : d = y
              · rename_i aa; clear aa
                have hne : ((d.toNat : Int) != (y.toNat : Int)) = false := by rw [hdy]; simp
                rw [decide_eq_false (by simpa using hdy), Bool.false_or] at HS
                replace HS := Lib.hid HS
                clear hdy
                go_wp2_with fail
                go_big_quiet (fail)
                go_wp2_with fail
                go_roundw
                case rel => exact ⟨k + 1, _, by omega, by go_num, rfl, Lib.hid HS.out.symm⟩
                case measure => simp [intOf]; omega
              · have hne : ((d.toNat : Int) != (y.toNat : Int)) = true := by
                  rw [bne_iff_ne]; intro h; exact hdy (UInt8.toNat_inj.1 (by exact_mod_cast h))
                rw [decide_eq_true hdy, Bool.true_or] at HS
                replace HS := Lib.hid HS
                clear hdy
                go_wp2_with fail
                go_big_quiet (fail)
                go_wp2_with fail
                go_ret
                exact ⟨rfl, _, by rw [World.drewN_drewN]⟩
          · rename_i aa; clear aa
            have HS : Hid (aclash (s.got.drop (off + (k + 1))) (l.drop (k + 1)) = ac) := Lib.hid (by
              have h3 := hn.out
              rw [← HT.out, aclash_end _ _ _ (by omega), aclash_end _ _ _ (by omega)])
            have hd : decide ((off : Int) + k < n) = false := decide_eq_false (by omega)
            clear HT
            go_wp2_with fail
            go_big_quiet (fail)
            go_wp2_with fail
            go_roundw
            case rel => exact ⟨k + 1, _, by omega, by go_num, rfl, HS⟩
            case measure => simp [intOf]; omega
        · exfalso
          have h1 := HT.out
          rw [show l.drop k = [] from List.drop_eq_nil_of_le (by omega), aclash_nil] at h1
          have h2 := hcc.out
          rw [← h1] at h2
          cases h2
end Go.Proofs.Ytlaomllgjiochaa
