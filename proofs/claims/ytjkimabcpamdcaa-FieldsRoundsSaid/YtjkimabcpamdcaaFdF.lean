/- fields: the reader: text, value. -/
import Derived.Test.YtjkimabcpamdcaaFdE
namespace Go.Proofs.Ytjkimabcpamdcaa
open Go.RowKit

theorem pgettext_bd (b : Nat) (l : List UInt8) (hb1 : 1 ≤ b) (hb7 : b ≤ 7) : 0 ≤ (pgettext b l).2.1 ∧ (pgettext b l).2.1 ≤ l.length ∧ (pgettext b l).1.length ≤ l.length := by
  cases l with
  | nil => simp [pgettext]
  | cons x r =>
    have key : pgettext b (x :: r) = if (x.toNat : Int) / 2 ^ b % 2 = 1 then ([], 0, 6)
      else if (pget b (x :: r)).2.2 ≠ 0 then ([], 0, (pget b (x :: r)).2.2)
      else if 2000 < (pget b (x :: r)).1 then ([], 0, 4)
      else if ((x :: r).length : Int) - (pget b (x :: r)).2.1 < (pget b (x :: r)).1 then ([], 0, 3)
      else (((x :: r).drop (pget b (x :: r)).2.1.toNat).take (pget b (x :: r)).1.toNat, (pget b (x :: r)).2.1 + (pget b (x :: r)).1, 0) := rfl
    rw [key]
    split
    · simp; omega
    · split
      · simp; omega
      · rename_i h
        have hE : (pget b (x :: r)).2.2 = 0 := by simpa using h
        have := pget_bd b (x :: r) hb1 (by omega) hE
        split
        · simp; omega
        · split
          · simp; omega
          · refine ⟨by simp only; omega, by simp only; omega, ?_⟩
            simp only [List.length_take, List.length_drop]; omega

section
variable {w w' : World} {p : Nat} {A : Option Addr} {n c : Nat} {l : List UInt8} {e : Int}
set_option maxRecDepth 100000 in
set_option maxHeartbeats 4000000 in
theorem text_any (h : Rdr w p A n c l e) (B : Nat) (hB : ∀ a, A = some a → a.block < B) (b : Nat) (hb1 : 1 ≤ b) (hb7 : b ≤ 7) (l' : List UInt8) (e1 : Int) (s : ByteArray) (hp : ptxt b l e = (l', e1, s)) :
    Calls Try.prog 29 #[.pointer (some ⟨p, 0, none⟩), .int .i64 b] w fun en w' => en = .returned (.string s) ∧ RdrB B w' p l' e1 ∧ Fr (fun k => k = p) w w' := by
  have x0 := h.row.cell 0 _ rfl
  have x1 := h.row.cell 1 _ rfl
  unfold ptxt at hp
  by_cases he : e = 0
  · subst he
    rw [if_neg (by simp)] at hp
    injection hp with hp1 hp2
    injection hp2 with hp2 hp3
    have PG := gettext_any l b A c w hb1 hb7 h.rd (by have := h.len; have := h.small; omega) (by rw [h.len]; exact h.cap) h.capx
    rw [h.len] at PG
    have hbd := pgettext_bd b l hb1 hb7
    unfold tpgettext at PG
    rw [hp3, hp2] at PG
    obtain ⟨M, hM⟩ : ∃ M, (pgettext b l).2.1 = M := ⟨_, rfl⟩
    rw [hM] at PG hp1 hbd
    rw [h.len] at hbd
    obtain ⟨M, rfl⟩ : ∃ M' : Nat, M = M' := ⟨M.toNat, by omega⟩
    rw [Int.toNat_natCast] at hp1
    have hMn : M ≤ n := by omega
    have HE := Lib.hid (h.setE e1)
    obtain ⟨X, hX, hXc⟩ := cut_l (P := Try.prog) Try.underlying26 infoB A n c M hMn h.cap
    obtain ⟨n2, hn2⟩ : ∃ n2, n - M = n2 := ⟨_, rfl⟩
    obtain ⟨c2, hc2⟩ : ∃ c2, c - M = c2 := ⟨_, rfl⟩
    have HB := HE.out.setB X M hMn hXc
    rw [hn2, hc2, hp1] at HB
    rw [hn2, hc2] at hX
    have e0 := HE.out.row.cell 0 _ rfl
    have f0 := HE.out.row.frozen 0
    have f1 := h.row.frozen 1
    have F3 := Lib.hid ((frp_cell w p 1 (.int .i64 e1)).trans (frp_cell _ p 0 (.slice X n2 c2)))
    have HLt : Hid (∀ a, X = some a → a.block < B) := Lib.hid (fun a ha => by
      obtain ⟨a0, h1, h2⟩ := hXc.blk a ha
      rw [← h2]; exact hB a0 h1)
    replace HB := Lib.hid HB
    replace PG := Lib.hid PG
    clear hbd h hXc hp1 hp2 hp3
    replace hM := Lib.hid hM
    replace hn2 := Lib.hid hn2
    replace hc2 := Lib.hid hc2
    go_enter Try.func29, Try.ntmps29
    go_wp2_with fail
    refine PG.out.mono ?_
    rintro en w2 ⟨rfl, rfl⟩
    clear PG
    go_wp2_with fail
    go_ret
    exact ⟨rfl, ⟨_, _, _, HB.out, HLt.out⟩, F3.out⟩
  · rw [if_pos he] at hp
    injection hp with hp1 hp2
    injection hp2 with hp2 hp3
    subst hp1 hp2 hp3
    have d1 : (e != 0) = true := by rw [bne_iff_ne]; exact he
    have H := Lib.hid h
    clear h
    go_enter Try.func29, Try.ntmps29
    go_wp2_with fail
    go_ret
    exact ⟨rfl, ⟨_, _, _, H.out, hB⟩, Fr.refl _ _⟩

set_option maxRecDepth 100000 in
set_option maxHeartbeats 4000000 in
theorem value_any (h : Rdr w p A n c l e) (B : Nat) (hB : ∀ a, A = some a → a.block < B) (l' : List UInt8) (e1 : Int) (s : ByteArray) (hp : pval l e = (l', e1, s)) :
    Calls Try.prog 30 #[.pointer (some ⟨p, 0, none⟩)] w fun en w' => en = .returned (.string s) ∧ RdrB B w' p l' e1 ∧ Fr (fun k => k = p) w w' := by
  have TX := Lib.hid (text_any h B hB 7 (by omega) (by omega) (ptxt 7 l e).1 (ptxt 7 l e).2.1 (ptxt 7 l e).2.2 rfl)
  have hsz : (ptxt 7 l e).2.2.size ≤ 1000000 := by
    unfold ptxt
    split
    · exact Nat.zero_le _
    · have := (pgettext_bd 7 l (by omega) (by omega)).2.2
      have := h.len
      have := h.small
      simp only [ByteArray.size, List.size_toArray]; omega
  unfold pval at hp
  obtain ⟨l2, hl2⟩ : ∃ x, (ptxt 7 l e).1 = x := ⟨_, rfl⟩
  obtain ⟨e2, he2⟩ : ∃ x, (ptxt 7 l e).2.1 = x := ⟨_, rfl⟩
  obtain ⟨s2, hs2⟩ : ∃ x, (ptxt 7 l e).2.2 = x := ⟨_, rfl⟩
  have hw : ptxt 7 l e = (l2, e2, s2) := by rw [← hl2, ← he2, ← hs2]
  rw [hw] at hp TX hsz
  simp only at hp TX hsz
  replace hl2 := Lib.hid hl2
  replace he2 := Lib.hid he2
  replace hs2 := Lib.hid hs2
  replace hw := Lib.hid hw
  clear h
  obtain ⟨m, hm⟩ : ∃ m, s2.size = m := ⟨_, rfl⟩
  by_cases h0 : e2 = 0
  · subst h0
    rw [if_neg (by simp)] at hp
    by_cases h400 : 400 < s2.size
    · rw [if_pos h400] at hp
      injection hp with hp1 hp2
      injection hp2 with hp2 hp3
      subst hp1 hp2 hp3
      rw [hm] at h400
      have d1 : decide (400 < m) = true := decide_eq_true h400
      have d1' : decide ((400 : Int) < (m : Int)) = true := decide_eq_true (by omega)
      go_enter Try.func30, Try.ntmps30
      go_wp2_with fail
      refine TX.out.mono ?_
      rintro en w2 ⟨rfl, ⟨A2, n2, c2, H2, L2⟩, F2⟩
      have x1 := H2.row.cell 1 _ rfl
      replace L2 := Lib.hid L2
      have f1 := H2.row.frozen 1
      have HE := Lib.hid (H2.setE 4)
      have F3 := Lib.hid (F2.trans (frp_cell w2 p 1 (.int .i64 4)))
      clear TX H2 F2
      go_wp2_with fail
      go_ret
      exact ⟨rfl, ⟨_, _, _, HE.out, L2.out⟩, F3.out⟩
    · rw [if_neg h400] at hp
      rw [hm] at h400
      have d1 : decide (400 < m) = false := decide_eq_false h400
      have d1' : decide ((400 : Int) < (m : Int)) = false := decide_eq_false (by omega)
      have PL := Lib.hid (fun W => plain_any s2 W (by omega))
      obtain ⟨V, hV⟩ : ∃ V, valok s2 = V := ⟨_, rfl⟩
      rw [hV] at hp PL
      replace hV := Lib.hid hV
      cases V
      · rw [if_neg (by simp)] at hp
        injection hp with hp1 hp2
        injection hp2 with hp2 hp3
        subst hp1 hp2 hp3
        go_enter Try.func30, Try.ntmps30
        go_wp2_with fail
        refine TX.out.mono ?_
        rintro en w2 ⟨rfl, ⟨A2, n2, c2, H2, L2⟩, F2⟩
        have x1 := H2.row.cell 1 _ rfl
        replace L2 := Lib.hid L2
        have f1 := H2.row.frozen 1
        have HE := Lib.hid (H2.setE 5)
        have F3 := Lib.hid (F2.trans (frp_cell w2 p 1 (.int .i64 5)))
        clear TX H2 F2
        go_wp2_with fail
        refine (PL.out _).mono ?_
        rintro en w3 ⟨rfl, rfl⟩
        go_wp2_with fail
        go_ret
        exact ⟨rfl, ⟨_, _, _, HE.out, L2.out⟩, F3.out⟩
      · rw [if_pos rfl] at hp
        injection hp with hp1 hp2
        injection hp2 with hp2 hp3
        subst hp1 hp2 hp3
        go_enter Try.func30, Try.ntmps30
        go_wp2_with fail
        refine TX.out.mono ?_
        rintro en w2 ⟨rfl, ⟨A2, n2, c2, H2, L2⟩, F2⟩
        have x1 := H2.row.cell 1 _ rfl
        replace L2 := Lib.hid L2
        replace H2 := Lib.hid H2
        replace F2 := Lib.hid F2
        clear TX
        go_wp2_with fail
        refine (PL.out _).mono ?_
        rintro en w3 ⟨rfl, rfl⟩
        go_wp2_with fail
        go_ret
        exact ⟨rfl, ⟨_, _, _, H2.out, L2.out⟩, F2.out⟩
  · rw [if_pos h0] at hp
    injection hp with hp1 hp2
    injection hp2 with hp2 hp3
    subst hp1 hp2 hp3
    have d1 : (e2 != 0) = true := by rw [bne_iff_ne]; exact h0
    go_enter Try.func30, Try.ntmps30
    go_wp2_with fail
    refine TX.out.mono ?_
    rintro en w2 ⟨rfl, ⟨A2, n2, c2, H2, L2⟩, F2⟩
    have x1 := H2.row.cell 1 _ rfl
    replace L2 := Lib.hid L2
    replace H2 := Lib.hid H2
    replace F2 := Lib.hid F2
    clear TX
    go_wp2_with fail
    go_ret
    exact ⟨rfl, ⟨_, _, _, H2.out, L2.out⟩, F2.out⟩
end
end Go.Proofs.Ytjkimabcpamdcaa
