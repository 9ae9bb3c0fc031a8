/- ranges: List, Largest; SameRanges. -/
import Derived.Test.YtdhdnpagdflgpaaRgE
import Derived.Lib.SliceRun
namespace Go.Proofs.Ytdhdnpagdflgpaa
open Go.RowKit

def RetR (w : World) (l : List Rg) (e : Ending) (w' : World) : Prop :=
  ∃ A c, e = .returned (.slice A l.length c) ∧ w'.ownsRow w.heap.size 33 2 (.slice A l.length c) l.length (rgv l) ∧ Below w.heap.size w w'

set_option maxHeartbeats 1000000 in
theorem clone_any (l : List Rg) (A : Option Addr) (c : Nat) (w : World) (hr : Rd w A (rgv l)) (hA : A = none → c = 0) (hl : l.length ≤ 1000000) :
    Calls Try.prog 25 #[.slice A l.length c] w (RetR w l) := by
  have hnil := fun (W : World) (B : Option Addr) (m k : Nat) => Lib.run_eql_slice_nil (P := Try.prog) W 30 33 B m k 0 0 Try.underlying30
  cases A with
  | none =>
    have hl0 : l = [] := by
      rcases l with _ | ⟨x, r⟩
      · rfl
      · obtain ⟨_, _, h, _⟩ := hr (by simp)
        cases h
    subst hl0
    have hc := hA rfl
    subst hc
    go_enter Try.func25, Try.ntmps25
    go_wp2
    go_ret
    exact ⟨none, 0, rfl, World.ownsRow_nil _ _ _ _, Below.refl _ _⟩
  | some a =>
    have hrc := Lib.hid (fun o => ((hr.alloc o).cells))
    go_enter Try.func25, Try.ntmps25
    go_wp2_with (at_builtin; refine Hid.out ?_)
    refine Lib.hid ?_
    refine wpList_appS rfl _ _ 30 (by rfl) w.heap.size 33 _ 2 16 infoR Try.underlying30 rfl (by decide) (.slice (some ⟨w.heap.size, 0, none⟩) 0 0) 0 [] (by rfl) (World.ownsRow_lit w #[] 0 (Nat.le_refl _) (by simp) rfl) a l.length c (rgv l) (by rfl) (rgv_len l) (hrc.out _) (rgv_one l) (by unfold maxLen; omega) (by omega) (by simp) ?_
    intro A1 c1 w1 hown hgrow _
    have F := ((Fr.refl NoS w).alloc _).grown hgrow (fun k hk hlt => by simp [Value.ownBlock] at hk; omega)
    simp only [Nat.zero_add, List.nil_append] at hown ⊢
    go_wp2
    go_ret
    exact ⟨A1, c1, rfl, hown, Fr.below F⟩

section
variable {w w' : World} {p : Nat} {A : Option Addr} {c : Nat} {s : Rs}
theorem IsSet.nilcap (h : IsSet w p A c s) : A = none → c = 0 := by
  intro e
  rcases ownS_cases h.row with ⟨_, _, h2, _⟩ | ⟨g, h1, _⟩
  · exact h2
  · rw [e] at h1; cases h1
set_option maxHeartbeats 1000000 in
theorem list_any (h : IsSet w p A c s) : Calls Try.prog 12 #[.pointer (some ⟨p, 0, none⟩)] w (RetR w s.l) := by
  have c1 := wrote_cell h.cell 1 _ rfl
  have CC := Lib.hid (clone_any s.l A c w h.rd h.nilcap (by have := h.small; omega))
  obtain ⟨l, hl⟩ : ∃ l, s.l = l := ⟨_, rfl⟩
  rw [hl] at CC c1 ⊢
  clear h hl
  go_enter Try.func12, Try.ntmps12
  go_wp2_with fail
  refine CC.out.mono ?_
  rintro e w2 ⟨A2, c2, rfl, o2, b2⟩
  replace o2 := Lib.hid o2
  replace b2 := Lib.hid b2
  go_wp2_with fail
  go_ret
  exact ⟨A2, c2, rfl, o2.out, b2.out⟩
set_option maxRecDepth 100000 in
set_option maxHeartbeats 1000000 in
theorem largest_any (h : IsSet w p A c s) : Calls Try.prog 15 #[.pointer (some ⟨p, 0, none⟩)] w fun e w' => e = .returned (.tuple #[.int .u64 ((s.l.head?.map Rg.hi).getD 0 : Nat), .bool (!s.l.isEmpty)]) ∧ Still w w' := by
  have c1 := wrote_cell h.cell 1 _ rfl
  rcases hl : s.l with _ | ⟨r, t⟩
  · rw [hl] at c1
    simp only [List.length_nil] at c1
    clear h
    go_enter Try.func15, Try.ntmps15
    go_wp2_with fail
    go_ret2
    exact ⟨rfl, Still.refl w⟩
  · obtain ⟨b, off, rfl, x0, x1⟩ := load_rg h.rd (k := 0) (by rw [hl]; simp)
    obtain ⟨n, hn⟩ : ∃ n, s.l.length = n := ⟨_, rfl⟩
    have hn0 : 0 < n := by rw [← hn, hl]; simp
    have bn : ((n : Int) == 0) = false := by rw [beq_eq_false_iff_ne]; omega
    have hI : (0 : Int) < (n : Int) := by omega
    rw [hn] at c1
    simp only [hl, List.getElem_cons_zero, Nat.zero_mul, Nat.add_zero] at x0 x1
    replace hl := Lib.hid hl
    replace hn := Lib.hid hn
    clear h
    go_enter Try.func15, Try.ntmps15
    go_wp2_with fail
    go_ret2
    exact ⟨rfl, Still.refl w⟩
end

set_option maxRecDepth 100000 in
set_option maxHeartbeats 2000000 in
theorem samer_any (l m : List Rg) (A1 A2 : Option Addr) (c1 c2 : Nat) (w : World) (h1 : Rd w A1 (rgv l)) (h2 : Rd w A2 (rgv m)) (hl : l.length ≤ 1000000) (hm : m.length ≤ 1000000) :
    Calls Try.prog 13 #[.slice A1 l.length c1, .slice A2 m.length c2] w fun e w' => e = .returned (.bool (decide (l = m))) ∧ ∃ k, w' = w.drewN k := by
  by_cases hlen : l.length = m.length
  · have hb : ((l.length : Int) != (m.length : Int)) = false := by rw [hlen]; simp
    go_enter Try.func13, Try.ntmps13
    have HL := Lib.hid hlen
    clear hlen
    go_wp2
    clear hb
    go_loopw [5] (fun i wr => ∃ k q : Nat, k ≤ l.length ∧ i = .int .i64 k ∧ wr = w.drewN q ∧ l.take k = m.take k) (fun i _ => l.length - (intOf i).toNat)
    case atStart => exact ⟨0, 0, by omega, rfl, rfl, rfl⟩
    case round =>
      obtain ⟨k, q, hk, rfl, rfl, htake⟩ := hrel
      have HT := Lib.hid htake
      clear htake
      by_cases hkl : k < l.length
      · have hkm : k < m.length := by have := HL.out; omega
        obtain ⟨b1, o1, rfl, x0, x1⟩ := load_rg h1 hkl
        obtain ⟨b2, o2, rfl, y0, y1⟩ := load_rg h2 hkm
        have hd : (l[k] = m[k] ∧ l[k].lo = m[k].lo ∧ l[k].hi = m[k].hi) ∨ (l[k] ≠ m[k] ∧ ((((l[k].lo : Nat) : Int) == (m[k].lo : Int)) = false ∨ ((((l[k].lo : Nat) : Int) == (m[k].lo : Int)) = true ∧ (((l[k].hi : Nat) : Int) == (m[k].hi : Int)) = false))) := by
          by_cases e1 : l[k].lo = m[k].lo
          · by_cases e2 : l[k].hi = m[k].hi
            · exact .inl ⟨by cases h : l[k]; cases h' : m[k]; simp_all, e1, e2⟩
            · exact .inr ⟨fun e => e2 (by rw [e]), .inr ⟨by rw [e1]; simp, by rw [beq_eq_false_iff_ne]; omega⟩⟩
          · exact .inr ⟨fun e => e1 (by rw [e]), .inl (by rw [beq_eq_false_iff_ne]; omega)⟩
        obtain ⟨a, ha⟩ : ∃ a, (l[k].lo : Int) = a := ⟨_, rfl⟩
        obtain ⟨b, hb⟩ : ∃ b, (l[k].hi : Int) = b := ⟨_, rfl⟩
        obtain ⟨a', ha'⟩ : ∃ a, (m[k].lo : Int) = a := ⟨_, rfl⟩
        obtain ⟨b', hb'⟩ : ∃ b, (m[k].hi : Int) = b := ⟨_, rfl⟩
        rw [ha] at x0
        rw [hb] at x1
        rw [ha'] at y0
        rw [hb'] at y1
        rw [ha, ha', hb, hb'] at hd
        rcases hd with ⟨hd, e1, e2⟩ | ⟨hd, hne⟩
        · have HD := Lib.hid hd
          have e1' : a' = a := by rw [← ha, ← ha', e1]
          have e2' : b' = b := by rw [← hb, ← hb', e2]
          subst e1' e2'
          clear hd ha hb ha' hb' e1 e2
          go_wp2
          go_quiet (fail)
          go_wp2
          go_roundw
          case rel => exact ⟨k + 1, q + nq, by omega, by go_num, rfl, by rw [List.take_succ_eq_append_getElem hkl, List.take_succ_eq_append_getElem hkm, HT.out, HD.out]⟩
          case measure => simp [intOf]; omega
        · have HD := Lib.hid hd
          clear hd ha hb ha' hb'
          rcases hne with h0 | ⟨h0, h00⟩
          · go_wp2
            go_quiet (fail)
            go_wp2
            go_ret
            refine ⟨ret_bool ?_, q + nq, by rw [World.drewN_drewN]⟩
            have := HD.out
            exact (decide_eq_false (fun e => this (by simp only [e]))).symm
          · go_wp2
            go_quiet (fail)
            go_wp2
            go_ret
            refine ⟨ret_bool ?_, q + nq, by rw [World.drewN_drewN]⟩
            have := HD.out
            exact (decide_eq_false (fun e => this (by simp only [e]))).symm
      · have hkl' : k = l.length := by omega
        go_wp2
        go_ret
        refine ⟨ret_bool ?_, _, rfl⟩
        have h1 := HT.out
        have h2 := HL.out
        rw [hkl', List.take_length, h2, List.take_length] at h1
        exact (decide_eq_true h1).symm
  · have hb : ((l.length : Int) != (m.length : Int)) = true := by rw [bne_iff_ne]; omega
    have HL := Lib.hid hlen
    clear hlen
    go_enter Try.func13, Try.ntmps13
    go_wp2
    go_ret
    refine ⟨ret_bool ?_, 0, rfl⟩
    have := HL.out
    exact (decide_eq_false (fun e => this (by rw [e]))).symm
end Go.Proofs.Ytdhdnpagdflgpaa
