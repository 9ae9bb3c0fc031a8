/- The document's fields: Get answers as ours. -/
import Derived.Test.YtjkimabcpamdcaaFsD
import Derived.Test.YtjkimabcpamdcaaFdH
namespace Go.Proofs.Ytjkimabcpamdcaa
open Go.RowKit

set_option maxRecDepth 100000 in
set_option maxHeartbeats 8000000 in
theorem rfget_any (l : List UInt8) (A : Option Addr) (c n : Nat) (w : World) (hn : l.length = n) (hr : Rd w A (bv l)) (hc : n ≤ c) (hcc : c ≤ 9223372036854775807) (hl : n ≤ 1000000) :
    Calls Try.prog 13 #[.slice A n c] w (RetG w (fget l)) := by
  rcases l with _ | ⟨x, _ | ⟨y, r⟩⟩
  · have hn0 : n = 0 := hn.symm
    subst hn0
    go_enter Try.func13, Try.ntmps13
    go_wp2_with fail
    go_ret2
    exact ⟨none, 0, rfl, World.ownsRow_nil _ _ _ _, Below.refl _ _⟩
  · have hn0 : n = 1 := hn.symm
    subst hn0
    go_enter Try.func13, Try.ntmps13
    go_wp2_with fail
    go_ret2
    exact ⟨none, 0, rfl, World.ownsRow_nil _ _ _ _, Below.refl _ _⟩
  · simp only [List.length_cons] at hn
    obtain ⟨b, off, rfl, h0⟩ := hr.at_ (k := 0) (by simp)
    obtain ⟨b', off', e1, h1⟩ := hr.at_ (k := 1) (by simp)
    injection e1 with e1
    injection e1 with e1 e2
    subst e1 e2
    simp only [bv, List.map_cons, List.getElem_cons_zero, List.getElem_cons_succ, Nat.add_zero] at h0 h1
    have hblt := World.block_lt_of_cell? w _ h0
    simp only at hblt
    have hn2 : 2 ≤ n := by omega
    have d0 : decide (n < 2) = false := decide_eq_false (by omega)
    have d0' : decide ((n : Int) < 2) = false := decide_eq_false (by omega)
    have hI0 : (0 : Int) < (n : Int) := by omega
    have hI1 : (1 : Int) < (n : Int) := by omega
    by_cases hz : x = 0 ∧ y = 0
    · obtain ⟨rfl, rfl⟩ := hz
      have hg : Hid (fget (0 :: 0 :: r) = fgl 17 r []) := Lib.hid (by unfold fget; rw [if_neg (by simp), if_neg (by simp)]; rfl)
      obtain ⟨X, hX, hXc⟩ := cut_l (P := Try.prog) Try.underlying26 infoB (some ⟨b, off, none⟩) n c 2 hn2 hc
      obtain ⟨n2, hn2e⟩ : ∃ n2, n - 2 = n2 := ⟨_, rfl⟩
      obtain ⟨c2, hc2e⟩ : ∃ c2, c - 2 = c2 := ⟨_, rfl⟩
      rw [hn2e, hc2e] at hX
      replace hX : ∀ w : World, (Instr.sliceAt 26 (.slice (some ⟨b, off, none⟩) n c) (some (.int .i64 2)) none none).run Try.prog w = .ok (.slice X n2 c2) w := hX
      have hrX := Lib.hid (hXc.bytes' hr (by simp; omega) hc)
      have hXlt : Hid (∀ a, X = some a → a.block < w.heap.size) := Lib.hid (fun a ha => by
        obtain ⟨a0, q1, q2⟩ := hXc.blk a ha
        injection q1 with q1
        subst q1
        simp only at q2
        omega)
      have hn2b : n2 ≤ c2 ∧ c2 ≤ 9223372036854775807 ∧ n2 ≤ 1000000 := by omega
      have hrl : Hid (r.length = n2) := Lib.hid (by omega)
      replace hn2e := Lib.hid hn2e
      replace hc2e := Lib.hid hc2e
      clear hXc hr
      go_enter Try.func13, Try.ntmps13
      go_wp2_with fail
      obtain ⟨p, hp⟩ : ∃ p, w.heap.size = p := ⟨_, rfl⟩
      rw [hp] at hXlt
      clear h0 h1 d0 d0' hI0 hI1 hX hblt
      go_loopw [0, 4] (fun vb v wr => ∃ (acc : List Fd) (k c4 : Nat) (A4 : Option Addr) (l1 : List UInt8) (A1 : Option Addr) (n1 c1 : Nat), acc.length = k ∧ k ≤ 16 ∧ v = .slice A4 k c4 ∧ vb = .slice A1 n1 c1 ∧ (n1 ≤ c1 ∧ c1 ≤ 9223372036854775807 ∧ n1 ≤ 1000000) ∧ Hid (l1.length = n1 ∧ Rd wr A1 (bv l1) ∧ (∀ a, A1 = some a → a.block < p) ∧ fgl (17 - k) l1 acc = fgl 17 r [] ∧ wr.ownsRow p 24 2 (.slice A4 k c4) k (fdv acc) ∧ Below p w wr ∧ p ≤ wr.heap.size)) (fun vb _ _ => sliceLen vb)
      case atStart => exact ⟨[], 0, 0, none, r, X, n2, c2, rfl, by omega, rfl, rfl, hn2b, Lib.hid ⟨hrl.out, hrX.out, hXlt.out, rfl, World.ownsRow_nil _ _ _ _, Below.refl _ _, by omega⟩⟩
      case round =>
        clear hrX hXlt hrl
        obtain ⟨acc, k, c4, A4, l1, A1, n1, c1, hk, hk16, rfl, rfl, ⟨hnc1, hcc1, hn1m⟩, HK⟩ := hrel
        obtain ⟨hlen, hr1, L1, hfin, ho, hb, hplt⟩ := HK.out
        clear HK
        rcases l1 with _ | ⟨z, r1⟩
        · have hn10 : n1 = 0 := hlen.symm
          subst hn10
          rw [fgl_nil] at hfin
          have hfin2 : Hid (fget (0 :: 0 :: r) = (acc, 0)) := Lib.hid (by rw [hg.out, ← hfin])
          replace ho := Lib.hid ho
          replace hb := Lib.hid hb
          replace hk := Lib.hid hk
          replace hp := Lib.hid hp
          clear L1 hfin hlen hr1
          go_wp2_with fail
          go_ret2
          rw [hfin2.out]
          refine ⟨A4, c4, by rw [show acc.length = k from hk.out]; rfl, ?_, by rw [hp.out]; exact hb.out⟩
          rw [hp.out, show acc.length = k from hk.out]; exact ho.out
        · have hn1 : 0 < n1 := by rw [← hlen]; simp
          have hn1I : (0 : Int) < (n1 : Int) := by omega
          obtain ⟨⟨⟨fa, fb⟩, lg, er⟩, hq⟩ : ∃ q, rln (z :: r1) = q := ⟨_, rfl⟩
          obtain ⟨q1, q2⟩ := rln_pln z r1
          rw [hq] at q1 q2
          simp only at q1 q2
          rw [hlen] at q2
          have LN := Lib.hid (rline_any z r1 A1 n1 c1 wr hr1 hlen hnc1 hcc1 hn1m fa fb lg er hq)
          obtain ⟨f, hf⟩ : ∃ f, 17 - k = f + 1 := ⟨16 - k, by omega⟩
          rw [hf, fgl_cons, hk] at hfin
          by_cases hk1 : k = 16
          · rw [if_pos hk1] at hfin
            have hfin2 : Hid (fget (0 :: 0 :: r) = ([], 4)) := Lib.hid (by rw [hg.out, ← hfin])
            have d1 : ((k : Int) == 16) = true := by rw [beq_iff_eq]; omega
            replace hb := Lib.hid hb
            replace hp := Lib.hid hp
            replace hk1 := Lib.hid hk1
            clear L1 hfin ho hf q1 q2 hq hr1 hlen
            go_wp2_with fail
            refine LN.out.mono ?_
            rintro en w2 ⟨rfl, b2⟩
            have B3 := Lib.hid ((hb.out.trans (b2.mono hplt)).alloc (Nat.le_trans hplt b2.size) (.cells #[.string fa, .string fb] 24))
            go_wp2_with fail
            go_ret2
            rw [hfin2.out]
            exact ⟨none, 0, rfl, World.ownsRow_nil _ _ _ _, by rw [hp.out]; exact B3.out⟩
          · rw [if_neg hk1] at hfin
            have d1 : ((k : Int) == 16) = false := by rw [beq_eq_false_iff_ne]; omega
            by_cases he : er = 0
            · subst he
              obtain ⟨a1, a2, a3, a4⟩ := q2 rfl
              obtain ⟨M, rfl⟩ : ∃ M' : Nat, lg = M' := ⟨lg.toNat, by omega⟩
              rw [Int.toNat_natCast] at a2
              rw [← q1, if_neg (by simp), ← a1, ← a2] at hfin
              have hMn : M ≤ n1 := by omega
              obtain ⟨X2, hX2, hXc2⟩ := cut_l (P := Try.prog) Try.underlying26 infoB A1 n1 c1 M hMn hnc1
              have hrd2 := hXc2.bytes' hr1 hlen hnc1
              have hl2 : ((z :: r1).drop M).length = n1 - M := by rw [List.length_drop, hlen]
              have L2 : ∀ a, X2 = some a → a.block < p := fun a ha => by
                obtain ⟨a0, e1, e2⟩ := hXc2.blk a ha
                have := L1 a0 e1
                omega
              obtain ⟨l2, hl2e⟩ : ∃ l2, (z :: r1).drop M = l2 := ⟨_, rfl⟩
              obtain ⟨n3, hn3⟩ : ∃ n3, n1 - M = n3 := ⟨_, rfl⟩
              obtain ⟨c3, hc3⟩ : ∃ c3, c1 - M = c3 := ⟨_, rfl⟩
              rw [hl2e] at hfin hrd2 hl2
              rw [hn3, hc3] at hX2
              rw [hn3] at hl2
              have hb3 : n3 ≤ c3 ∧ c3 ≤ 9223372036854775807 ∧ n3 ≤ 1000000 ∧ n3 < n1 := by omega
              replace hfin := Lib.hid hfin
              replace hf := Lib.hid hf
              replace ho := Lib.hid ho
              replace hb := Lib.hid hb
              replace hp := Lib.hid hp
              replace hq := Lib.hid hq
              replace hl2e := Lib.hid hl2e
              replace hn3 := Lib.hid hn3
              replace hc3 := Lib.hid hc3
              have hG := Lib.hid (And.intro hl2 (And.intro hrd2 L2))
              clear L1 hr1 hlen q1 q2 a1 a2 a3 a4 hXc2 hrd2 hl2 L2
              go_wp2_with fail
              refine LN.out.mono ?_
              rintro en w2 ⟨rfl, b2⟩
              have o2 := Lib.hid (own_fr ho.out (Fr.of_below b2 NoS) (fun _ _ x => x))
              have B2 := Lib.hid (hb.out.trans (b2.mono hplt))
              have hplt2 := Nat.le_trans hplt b2.size
              have rd2 := Lib.hid (hG.out.2.1.below b2)
              have HF : Hid (∀ A6 c6 w6 oa ob, w6.ownsRow p 24 2 (.slice A6 (k + 1) c6) (k + 1) (fdv acc ++ [.string fa, .string fb]) → ((w2.alloc oa).alloc ob).grownBy w6 (Value.slice A4 k c4).ownBlock → Rd w6 X2 (bv l2) ∧ w6.ownsRow p 24 2 (.slice A6 (k + 1) c6) (k + 1) (fdv (acc ++ [⟨fa, fb⟩])) ∧ Below p w w6 ∧ p ≤ w6.heap.size) := Lib.hid (fun A6 c6 w6 oa ob h6 g6 => by
                have F6 : Fr (fun q => (Value.slice A4 k c4).ownBlock = some q) w2 w6 := (((Fr.refl _ w2).alloc oa).alloc ob).grown g6 (fun _ hq _ => hq)
                refine ⟨rd2.out.fr F6 (fun _ a ha e => ?_), by rw [fdv_append]; exact h6, Fr.under B2.out hplt2 F6 (fun q hq _ => (o2.out.lt q hq).1), by have := F6.size; omega⟩
                have q1 := hG.out.2.2 a ha
                have q2 := (o2.out.lt a.block e).1
                omega)
              clear b2
              go_wp2_with (at_builtin; refine wpList_appS rfl _ _ 22 rfl p 24 _ 2 32 infoF Try.underlying22 rfl (by decide) (.slice A4 k c4) k (fdv acc) rfl ((o2.out.alloc _).alloc _) ⟨w2.heap.size + 1, 0, none⟩ 1 1 [.string fa, .string fb] rfl rfl (Rd.fresh_to (by rw [World.size_alloc]) [.string fa, .string fb] _ _).cells (by intro u hu; simp at hu; rcases hu with rfl | rfl <;> rfl) (by unfold maxLen; omega) (by omega) (by simp only [World.size_alloc]; omega) ?_; intro A6 c6 w6 ho6 hg6 hat6; have H6 := Lib.hid (HF.out A6 c6 w6 _ _ ho6 hg6); clear ho6 hg6 hat6)
              go_roundw
              case rel => exact ⟨acc ++ [⟨fa, fb⟩], k + 1, c6, A6, l2, X2, n3, c3, by rw [List.length_append, hk]; rfl, by omega, rfl, rfl, ⟨hb3.1, hb3.2.1, hb3.2.2.1⟩, Lib.hid ⟨hG.out.1, H6.out.1, hG.out.2.2, by rw [← hfin.out]; congr 1; have := hf.out; omega, H6.out.2.1, H6.out.2.2.1, H6.out.2.2.2⟩⟩
              case measure => simp only [sliceLen]; omega
            · rw [← q1, if_pos he] at hfin
              have d2 : (er != 0) = true := by rw [bne_iff_ne]; exact he
              have hfin2 : Hid (fget (0 :: 0 :: r) = ([], er)) := Lib.hid (by rw [hg.out, ← hfin])
              replace hb := Lib.hid hb
              replace hp := Lib.hid hp
              clear L1 hfin ho hf q1 q2 hq hr1 hlen
              go_wp2_with fail
              refine LN.out.mono ?_
              rintro en w2 ⟨rfl, b2⟩
              have B3 := Lib.hid ((hb.out.trans (b2.mono hplt)).alloc (Nat.le_trans hplt b2.size) (.cells #[.string fa, .string fb] 24))
              go_wp2_with fail
              go_ret2
              rw [hfin2.out]
              exact ⟨none, 0, rfl, World.ownsRow_nil _ _ _ _, by rw [hp.out]; exact B3.out⟩
    · have hg : Hid (fget (x :: y :: r) = ([], 5)) := Lib.hid (by
        unfold fget
        rw [if_neg (by simp), if_pos]
        rcases Classical.em (x = 0) with h | h
        · exact .inr (fun e => hz ⟨h, e⟩)
        · exact .inl h)
      have hxy : ((x.toNat : Int) != 0) = true ∨ (((x.toNat : Int) != 0) = false ∧ ((y.toNat : Int) != 0) = true) := by
        rcases Classical.em (x = 0) with h | h
        · right
          subst h
          refine ⟨rfl, ?_⟩
          have : y ≠ 0 := fun e => hz ⟨rfl, e⟩
          exact u8_ne' this
        · left
          exact u8_ne' h
      obtain ⟨a, ha⟩ : ∃ a : Int, (x.toNat : Int) = a := ⟨_, rfl⟩
      obtain ⟨b2, hb2⟩ : ∃ b : Int, (y.toNat : Int) = b := ⟨_, rfl⟩
      rw [ha] at h0
      rw [hb2] at h1
      rw [ha, hb2] at hxy
      clear hr hz ha hb2
      rcases hxy with h | ⟨h, h2⟩
      all_goals
        go_enter Try.func13, Try.ntmps13
        go_wp2_with fail
        go_ret2
        rw [hg.out]
        exact ⟨none, 0, rfl, World.ownsRow_nil _ _ _ _, Below.refl _ _⟩
end Go.Proofs.Ytjkimabcpamdcaa
