/- hello: the document's own GetFinished. -/
import Derived.Test.YtlepceajpgloeaaHlX
import Derived.Test.YtlepceajpgloeaaHlF
import Derived.Test.YtlepceajpgloeaaHlU
import Derived.Test.YtlepceajpgloeaaCopy
namespace Go.Proofs.Ytlepceajpgloeaa
open Go.RowKit

def rfinr (l : List UInt8) : List UInt8 × Int × Int :=
  if (rbody l 20 20).2.2 ≠ 0 then (List.replicate 32 0, 0, (rbody l 20 20).2.2) else if (rbody l 20 20).1.length ≠ 32 then (List.replicate 32 0, 0, 5) else ((rbody l 20 20).1, (rbody l 20 20).2.1, 0)

set_option maxRecDepth 100000 in
set_option maxHeartbeats 4000000 in
theorem rfin_any (l : List UInt8) (A0 : Option Addr) (c0 n0 : Nat) (w0 : World) (hn : l.length = n0) (hr : Rd w0 A0 (bv l)) (hl : n0 ≤ 1000000) (hc : n0 ≤ c0) (hcc : c0 ≤ 9223372036854775807) :
    Calls Try.prog 27 #[.slice A0 n0 c0] w0 (RetF w0 (rfinr l)) := by
  obtain ⟨V, hV⟩ : ∃ V, rfinr l = V := ⟨_, rfl⟩
  obtain ⟨g, hg⟩ : ∃ g, w0.heap.size = g := ⟨_, rfl⟩
  rw [hV]
  have HV : Hid (V = rfinr l) := Lib.hid hV.symm
  have HO : Hid (∀ w3, w3 = (w0.alloc (.cells hz32.toArray 22)).alloc (.cells hz32.toArray 22) → w3.heap[g]? = some (.cells hz32.toArray 22 (0, 0)) ∧ w3.heap[g + 1]? = some (.cells hz32.toArray 22 (0, 0)) ∧ Below g w0 w3) := Lib.hid (fun w3 hw3 => by
    have a1 := heap_alloc_new w0 (.cells hz32.toArray 22)
    have s1 : (w0.alloc (.cells hz32.toArray 22)).heap.size = g + 1 := by simp [hg]
    obtain ⟨wa, hwa⟩ : ∃ wa, w0.alloc (.cells hz32.toArray 22) = wa := ⟨_, rfl⟩
    have b1 : Below g w0 wa := by rw [← hwa]; exact (Below.refl _ w0).alloc (by rw [hg]; exact Nat.le_refl _) _
    rw [hwa] at a1 s1 hw3
    rw [hg] at a1
    have a2 := heap_alloc_new wa (.cells hz32.toArray 22)
    rw [s1] at a2
    have f2 := Fr.of_below ((Below.refl wa.heap.size wa).alloc (Nat.le_refl _) (.cells hz32.toArray 22)) NoS
    subst hw3
    exact ⟨heap_fr a1 f2 (fun x => x), a2, b1.alloc (by omega) _⟩)
  replace hV := Lib.hid hV
  replace hg := Lib.hid hg
  have KB := Lib.hid (fun W (h1 : Rd W A0 (bv l)) => rbody_any l 20 20 A0 c0 n0 W hn h1 hl hc hcc)
  replace hr := Lib.hid hr
  replace hn := Lib.hid hn
  go_enter Try.func27, Try.ntmps27
  go_wp2_with fail
  have hgo := hg.out
  simp only [hgo]
  change Calls _ _ #[.slice A0 n0 c0, .int .i64 20, .int .i64 20] ((w0.alloc (.cells hz32.toArray 22)).alloc (.cells hz32.toArray 22)) _
  have K0 := HO.out _ rfl
  obtain ⟨w3, hw3⟩ : ∃ w3, (w0.alloc (.cells hz32.toArray 22)).alloc (.cells hz32.toArray 22) = w3 := ⟨_, rfl⟩
  rw [hw3] at K0 ⊢
  clear hw3 HO hgo
  obtain ⟨z3, y3, b3⟩ := K0
  have KC := KB.out w3 (hr.out.below (by have := b3; rw [← hg.out] at this; exact this))
  unfold rfinr at HV
  obtain ⟨⟨xs, L, ev⟩, hq⟩ : ∃ q, rbody l 20 20 = q := ⟨_, rfl⟩
  rw [hq] at KC HV
  simp only at HV
  replace hq := Lib.hid hq
  clear KB
  replace z3 := Lib.hid z3
  replace y3 := Lib.hid y3
  replace b3 := Lib.hid b3
  refine KC.mono ?_
  rintro e w4 ⟨X, c1, n1, rfl, hlen, hnc, hcc1, hn1000, RX, hblk, ST⟩
  simp only at hlen RX
  have z4 := Lib.hid (by rw [ST.heap]; exact z3.out : w4.heap[g]? = some (.cells hz32.toArray 22 (0, 0)))
  have y4 := Lib.hid (by rw [ST.heap]; exact y3.out : w4.heap[g + 1]? = some (.cells hz32.toArray 22 (0, 0)))
  have b4 := Lib.hid (b3.out.trans (ST.below.mono (by have := heap_lt z3.out; omega)))
  have hglt := heap_lt z4.out
  have HE : Hid (∀ (W : World), Below g w0 W → g < W.heap.size → ∀ (r : List UInt8) (w2 : World), r.length = 32 → w2.heap[g]? = some (.cells (over hz32.toArray 0 (bv r)) 22 (0, 0)) → Fr (fun k => k = g) W w2 → w2.heap[g]? = some (.cells (bv r).toArray 22 (0, 0)) ∧ Below g w0 w2) := Lib.hid (fun W bW hW r w2 hr2 h2 F2 => by
    rw [over_full (bv r) _ (by rw [hz32_size, bv_length, hr2])] at h2
    exact ⟨h2, bel_at bW (Nat.le_of_lt hW) (Nat.le_refl _) F2⟩)
  have hRz : Hid (w4.rangeAt (g + 1) 0 hz32) := Lib.hid (range_of_block y4.out)
  clear KC ST z3 y3 b3
  replace RX := Lib.hid RX
  replace hblk := Lib.hid hblk
  by_cases he : ev = 0
  · subst he
    replace HV := HV.out
    rw [if_neg (by simp)] at HV
    by_cases h32 : n1 = 32
    · subst h32
      rw [hlen, if_neg (by simp)] at HV
      have HV2 : Hid (V = (xs, L, 0)) := Lib.hid HV
      have hbl : Hid ((bv xs).length = 32) := Lib.hid (by rw [bv_length, hlen])
      replace hlen := Lib.hid hlen
      clear HV
      have HX : Hid (∀ w5 : World, w5.heap[g + 1]? = some (.cells (bv ((List.replicate 32 0).take 0 ++ xs ++ (List.replicate 32 0).drop (0 + 32))).toArray 22 (0, 0)) → Fr (· = g + 1) w4 w5 → w5.rangeAt (g + 1) 0 (bv xs) ∧ w5.heap[g]? = some (.cells hz32.toArray 22 (0, 0)) ∧ Below g w0 w5 ∧ g < w5.heap.size) := Lib.hid (fun w5 h5 F5 => by
        have e5 : (List.replicate 32 (0 : UInt8)).take 0 ++ xs ++ (List.replicate 32 (0 : UInt8)).drop (0 + 32) = xs := by simp
        rw [e5] at h5
        have r5 := range_of_block h5
        refine ⟨by simpa using r5, heap_fr z4.out F5 (by omega), Fr.under b4.out (Nat.le_of_lt hglt) F5 (fun k hk _ => by omega), Nat.lt_of_lt_of_le hglt F5.size⟩)
      go_wp2_with (first
        | (refine wpList_copyB rfl (.tmp 23) (.tmp 24) 24 24 rfl 5 Try.underlying24 (by kernel_rfl) (some ⟨g + 1, 0, none⟩) X 32 32 32 c1 rfl rfl (g + 1) 0 (List.replicate 32 0) xs 22 y4.out hlen.out (Nat.le_refl _) (fun _ => rfl) RX.out (by simp) ?_; intro w5 h5 F5; have HC := HX.out w5 h5 F5; clear h5 F5; obtain ⟨r5, z5, b5, g5⟩ := HC; replace r5 := Lib.hid r5; replace z5 := Lib.hid z5; replace b5 := Lib.hid b5)
        | (refine wpList_load_mid rfl 22 (.tmp 5) rfl (g + 1) 0 rfl (bv xs) _ r5.out Try.underlying22 rfl (by rw [hbl.out]; exact hinfo22) ?_)
        | (refine wpList_store_block rfl 22 (.tmp 2) (.tmp 26) rfl g 0 (bv xs) rfl rfl hz32.toArray _ z5.out (by rw [hbl.out, hz32_size]; exact Nat.le_refl _) (by rw [hbl.out]; exact hinfo22) (bv_one _) ?_; intro w2 h2 F2; have HF2 := Lib.hid (HE.out w5 b5.out g5 xs w2 hlen.out h2 F2); clear h2 F2))
      refine bodyPost_ret (results_cell3 Try.results27 _ w2 g 22 (bv xs).toArray _ rfl HF2.out.1 Try.underlying22 rfl (by rw [List.size_toArray, hbl.out]; exact hinfo22)) rfl ?_
      rw [HV2.out]
      exact ⟨rfl, hlen.out, by rw [hg.out]; exact HF2.out.2⟩
    · rw [hlen, if_pos (by simpa using h32)] at HV
      have d1 : ((n1 : Int) != 32) = true := by rw [bne_iff_ne]; omega
      have HV2 : Hid (V = (List.replicate 32 0, 0, 5)) := Lib.hid HV
      replace hlen := Lib.hid hlen
      clear HV
      go_wp2_with (first | (refine wpList_load_mid rfl 22 (.tmp 5) rfl (g + 1) 0 rfl hz32 _ hRz.out Try.underlying22 rfl hinfo22 ?_) | (refine wpList_store_block rfl 22 (.tmp 2) (.tmp 22) rfl g 0 hz32 rfl rfl hz32.toArray _ z4.out (Nat.le_of_eq hz32_size.symm) hinfo22 (bv_one _) ?_; intro w2 h2 F2; have HF2 := Lib.hid (HE.out w4 b4.out hglt (List.replicate 32 0) w2 (by simp) h2 F2); clear h2 F2))
      refine bodyPost_ret (results_cell3 Try.results27 _ w2 g 22 (bv (List.replicate 32 0)).toArray _ rfl HF2.out.1 Try.underlying22 rfl hinfo22) rfl ?_
      rw [HV2.out]
      exact ⟨rfl, by simp, by rw [hg.out]; exact HF2.out.2⟩
  · replace HV := HV.out
    rw [if_pos he] at HV
    have d1 : (ev != 0) = true := by rw [bne_iff_ne]; exact he
    have HV2 : Hid (V = (List.replicate 32 0, 0, ev)) := Lib.hid HV
    replace hlen := Lib.hid hlen
    clear HV
    go_wp2_with (first | (refine wpList_load_mid rfl 22 (.tmp 5) rfl (g + 1) 0 rfl hz32 _ hRz.out Try.underlying22 rfl hinfo22 ?_) | (refine wpList_store_block rfl 22 (.tmp 2) (.tmp 17) rfl g 0 hz32 rfl rfl hz32.toArray _ z4.out (Nat.le_of_eq hz32_size.symm) hinfo22 (bv_one _) ?_; intro w2 h2 F2; have HF2 := Lib.hid (HE.out w4 b4.out hglt (List.replicate 32 0) w2 (by simp) h2 F2); clear h2 F2))
    refine bodyPost_ret (results_cell3 Try.results27 _ w2 g 22 (bv (List.replicate 32 0)).toArray _ rfl HF2.out.1 Try.underlying22 rfl hinfo22) rfl ?_
    rw [HV2.out]
    exact ⟨rfl, by simp, by rw [hg.out]; exact HF2.out.2⟩
end Go.Proofs.Ytlepceajpgloeaa
