/- hello: same: two hellos that hold the same. -/
import Derived.Test.YtlepceajpgloeaaHlZc
namespace Go.Proofs.Ytlepceajpgloeaa
open Go.RowKit

theorem still_cell {w W : World} (h : Still w W) (p : Addr) : W.cell? p = w.cell? p := World.cell?_of_block (w := w) (by rw [h.heap])
set_option maxRecDepth 100000 in
set_option maxHeartbeats 4000000 in
theorem same_yes (s : Bool) (r : List UInt8) (ids : List (List UInt8)) (A A' : Option Addr) (n c c' : Nat) (w : World) (hr : r.length = 32) (hn : ids.length = n) (hb : n ≤ 1000) (h1 : RdR w A ids) (h2 : RdR w A' ids) (h8 : ∀ i ∈ ids, i.length ≤ 1000) :
    Calls Try.prog 28 #[.agg (hcl s r A n c), .agg (hcl s r A' n c')] w fun e w' => e = .returned (.bool true) ∧ Below w.heap.size w w' := by
  have HN := fun W => neq22 r r hr hr W
  rw [decide_eq_true (rfl : r = r)] at HN
  have hss : (s != s) = false := by simp
  have hnn : ((n : Int) != (n : Int)) = false := by simp
  have HO : Hid (∀ W, W = (w.alloc (.cells (hcl s r A n c) 27)).alloc (.cells (hcl s r A' n c') 32) →
      W.heap[w.heap.size]? = some (.cells (hcl s r A n c) 27 (0, 0)) ∧ W.heap[w.heap.size + 1]? = some (.cells (hcl s r A' n c') 32 (0, 0)) ∧ Below w.heap.size w W) := Lib.hid (by
    rintro W rfl
    have a1 := heap_alloc_new w (.cells (hcl s r A n c) 27 (0, 0))
    have hs : (w.alloc (.cells (hcl s r A n c) 27 (0, 0))).heap.size = w.heap.size + 1 := by simp
    have a2 := heap_alloc_new (w.alloc (.cells (hcl s r A n c) 27 (0, 0))) (.cells (hcl s r A' n c') 32 (0, 0))
    rw [hs] at a2
    exact ⟨heap_fr a1 (Fr.of_below ((Below.refl _ _).alloc (Nat.le_refl _) _) NoS) (fun x => x), a2, ((Below.refl _ w).alloc (Nat.le_refl _) _).alloc (by simp) _⟩)
  have hbr : Hid ((bv r).length = 32) := Lib.hid (by rw [bv_length, hr])
  have k0 := hcl_0 s r A n c
  have k33 := hcl_33 s r A n c hr
  have j0 := hcl_0 s r A' n c'
  have j33 := hcl_33 s r A' n c' hr
  have kr := hcl_r s r A n c
  have jr := hcl_r s r A' n c'
  obtain ⟨cs, hcs⟩ : ∃ cs, hcl s r A n c = cs := ⟨_, rfl⟩
  obtain ⟨ds, hds⟩ : ∃ ds, hcl s r A' n c' = ds := ⟨_, rfl⟩
  rw [hcs] at HO k0 k33 kr ⊢
  rw [hds] at HO j0 j33 jr ⊢
  obtain ⟨W2, hW2⟩ : ∃ W2, (w.alloc (.cells cs 27)).alloc (.cells ds 32) = W2 := ⟨_, rfl⟩
  obtain ⟨z1, z2, B2⟩ := HO.out W2 hW2.symm
  have c0 := wrote_cell z1 0 _ k0
  have c33 := wrote_cell z1 33 _ k33
  have d0 := wrote_cell z2 0 _ j0
  have d33 := wrote_cell z2 33 _ j33
  have RR : Hid (W2.rangeAt w.heap.size 1 (bv r)) := Lib.hid (fun j v hv => by rw [cell_of_row W2 w.heap.size (1 + j) _ _ (0, 0) z1]; exact kr j v hv)
  have RQ : Hid (W2.rangeAt (w.heap.size + 1) 1 (bv r)) := Lib.hid (fun j v hv => by rw [cell_of_row W2 (w.heap.size + 1) (1 + j) _ _ (0, 0) z2]; exact jr j v hv)
  have R1 := Lib.hid (h1.fr B2)
  have R2 := Lib.hid (h2.fr B2)
  have hnh := Lib.hid hn
  replace B2 := Lib.hid B2
  replace h8 := Lib.hid h8
  replace hW2 := Lib.hid hW2
  replace hcs := Lib.hid hcs
  replace hds := Lib.hid hds
  have K0 := Lib.hid (And.intro c0 (And.intro c33 (And.intro d0 d33)))
  clear HO z1 z2 kr jr hr hn h1 h2 k0 k33 j0 j33 c0 c33 d0 d33
  go_enter Try.func28, Try.ntmps28
  go_upto_region 1 with fail
  rw [hW2.out]
  obtain ⟨c0, c33, d0, d33⟩ := K0.out
  go_wp2_with (first
    | (refine wpList_loadG rfl 22 (.tmp 12) rfl w.heap.size 1 rfl (bv r) _ RR.out Try.underlying22 rfl (by rw [hbr.out]; exact hinfo22) ?_)
    | (refine wpList_loadG rfl 22 (.tmp 14) rfl (w.heap.size + 1) 1 rfl (bv r) _ RQ.out Try.underlying22 rfl (by rw [hbr.out]; exact hinfo22) ?_))
  clear c0 d0 HN hss hnn
  go_loopw [5] (fun i wr => ∃ k : Nat, k ≤ n ∧ i = .int .i64 k ∧ Hid (Still W2 wr)) (fun i _ => n - (intOf i).toNat)
  case atStart => exact ⟨0, by omega, rfl, Lib.hid (by first | exact Still.refl _ | exact Still.drewN _ _)⟩
  case round =>
    obtain ⟨k, hk, rfl, hST⟩ := hrel
    have e33 : wr.cell? ⟨w.heap.size, 33, none⟩ = some (.slice A n c) := by rw [still_cell hST.out]; exact c33
    by_cases hkn : k < n
    · rename_i aa; clear aa
      have hkl : k < ids.length := by rw [hnh.out]; exact hkn
      obtain ⟨b, off, Ak, ck, rfl, g1, g2, g3, g4⟩ := R1.out.at_ hkl
      obtain ⟨b', off', Bk, ck', rfl, f1, f2, f3, f4⟩ := R2.out.at_ hkl
      have hl8 := h8.out ids[k] (List.getElem_mem hkl)
      obtain ⟨id, hid⟩ : ∃ id, ids[k] = id := ⟨_, rfl⟩
      rw [hid] at g1 g2 g3 f1 f2 f3 hl8
      obtain ⟨m, hm⟩ : ∃ m, id.length = m := ⟨_, rfl⟩
      rw [hm] at g1 f1 hl8
      have CS : Hid (∀ W, Still W2 W → Calls Try.prog 12 #[.slice Ak m ck, .slice Bk m ck'] W fun e w' => e = .returned (.bool true) ∧ Still W2 w') := Lib.hid (fun W hW => by
        have := same_any id id Ak Bk ck ck' W (hW.rd g2) (hW.rd f2) (by omega) (by omega)
        rw [hm, decide_eq_true (rfl : id = id)] at this
        refine this.mono ?_
        rintro e w' ⟨rfl, z, rfl⟩
        exact ⟨rfl, hW.trans (Still.drewN _ _)⟩)
      have HS : Hid (∀ W, Still W2 W → W.cell? ⟨w.heap.size, 33, none⟩ = some (.slice (some ⟨b, off, none⟩) n c) ∧ W.cell? ⟨w.heap.size + 1, 33, none⟩ = some (.slice (some ⟨b', off', none⟩) n c') ∧ W.cell? ⟨b, off + k, none⟩ = some (.slice Ak m ck) ∧ W.cell? ⟨b', off' + k, none⟩ = some (.slice Bk m ck')) := Lib.hid (fun W hW => ⟨by rw [still_cell hW]; exact c33, by rw [still_cell hW]; exact d33, by rw [still_cell hW]; exact g1, by rw [still_cell hW]; exact f1⟩)
      have SD := Lib.hid (hST.out.trans (Still.drew _))
      replace g2 := Lib.hid g2
      replace f2 := Lib.hid f2
      replace hm := Lib.hid hm
      clear hid hkl
      go_wp2_with fail
      go_region_held3 (fun W => W.cell? ⟨w.heap.size, 33, none⟩ = some (.slice (some ⟨b, off, none⟩) n c) ∧ W.cell? ⟨w.heap.size + 1, 33, none⟩ = some (.slice (some ⟨b', off', none⟩) n c') ∧ W.cell? ⟨b, off + k, none⟩ = some (.slice Ak m ck) ∧ W.cell? ⟨b', off' + k, none⟩ = some (.slice Bk m ck')) (first | assumption | exact HS.out _ SD.out | exact HS.out _ S7) ((go_at_call 12; refine (CS.out _ SD.out).mono ?_; rintro e w7 ⟨rfl, S7⟩; have hk7 := HS.out _ S7))
      go_wp2_with fail
      go_roundw
      case rel => exact ⟨k + 1, by omega, by go_num, Lib.hid S7⟩
      case measure => simp [intOf]; omega
    · have hk' : k = n := by omega
      go_wp2_with fail
      go_ret
      exact ⟨rfl, B2.out.trans (hST.out.below.mono B2.out.size)⟩
end Go.Proofs.Ytlepceajpgloeaa
