/- hello: GetFinished. -/
import Derived.Test.YtlepceajpgloeaaHlE
namespace Go.Proofs.Ytlepceajpgloeaa
open Go.RowKit

def hfinr (l : List UInt8) : List UInt8 × Int × Int :=
  if (hbody l [20]).2.2 ≠ 0 then (List.replicate 32 0, 0, (hbody l [20]).2.2) else if (hbody l [20]).2.1.length ≠ 32 then (List.replicate 32 0, 0, 5) else ((hbody l [20]).2.1, 36, 0)
def RetF (w : World) (x : List UInt8 × Int × Int) (e : Ending) (w' : World) : Prop :=
  e = .returned (.tuple #[.agg (bv x.1).toArray, .int .i64 x.2.1, .int .i64 x.2.2]) ∧ x.1.length = 32 ∧ Below w.heap.size w w'
def hz32 : List Value := bv (List.replicate 32 0)
theorem hz32_size : hz32.toArray.size = 32 := by decide
theorem build22 (w : World) : (Instr.build 22 #[]).run Try.prog w = .ok (.agg hz32.toArray) w := by kernel_rfl

set_option maxRecDepth 100000 in
set_option maxHeartbeats 4000000 in
theorem hfin_any (l : List UInt8) (A0 : Option Addr) (c0 n0 : Nat) (w0 : World) (hn : l.length = n0) (hr : Rd w0 A0 (bv l)) (hl : n0 ≤ 1000000) (hc : n0 ≤ c0) (hcc : c0 ≤ 9223372036854775807) :
    Calls Try.prog 20 #[.slice A0 n0 c0] w0 (RetF w0 (hfinr l)) := by
  obtain ⟨V, hV⟩ : ∃ V, hfinr l = V := ⟨_, rfl⟩
  obtain ⟨g, hg⟩ : ∃ g, w0.heap.size = g := ⟨_, rfl⟩
  rw [hV]
  have HV : Hid (V = hfinr l) := Lib.hid hV.symm
  have HB := fun w => build22 w
  have HO : Hid (∀ cs, cs = #[Value.int .i64 20] → ∀ w3, w3 = (w0.alloc (.cells hz32.toArray 22)).alloc (.cells cs 3) → w3.heap[g]? = some (.cells hz32.toArray 22 (0, 0)) ∧ Below g w0 w3 ∧ Rd w3 (some ⟨g + 1, 0, none⟩) (iv [20])) := Lib.hid (fun cs hcs w3 hw3 => by
    subst hcs
    have a1 := heap_alloc_new w0 (.cells hz32.toArray 22)
    have s1 : (w0.alloc (.cells hz32.toArray 22)).heap.size = g + 1 := by simp [hg]
    obtain ⟨wa, hwa⟩ : ∃ wa, w0.alloc (.cells hz32.toArray 22) = wa := ⟨_, rfl⟩
    have b1 : Below g w0 wa := by rw [← hwa]; exact (Below.refl _ w0).alloc (by rw [hg]; exact Nat.le_refl _) _
    rw [hwa] at a1 s1 hw3
    rw [hg] at a1
    have f2 := Fr.of_below ((Below.refl wa.heap.size wa).alloc (Nat.le_refl _) (.cells (iv [20]).toArray 3)) NoS
    have hw3' : w3 = wa.alloc (.cells (iv [20]).toArray 3) := hw3
    subst hw3'
    exact ⟨heap_fr a1 f2 (fun x => x), b1.alloc (by omega) _, Rd.fresh_to s1 (iv [20]) _ _⟩)
  replace hV := Lib.hid hV
  replace hg := Lib.hid hg
  have KB := Lib.hid (fun W K (h1 : Rd W A0 (bv l)) (h2 : Rd W K (iv [20])) => hbody_any l [20] A0 K c0 n0 1 1 W hn rfl h1 h2 hl hc hcc (by omega))
  replace hr := Lib.hid hr
  replace hn := Lib.hid hn
  go_enter Try.func20, Try.ntmps20
  go_wp2_with fail
  have hgo := hg.out
  simp only [hgo]
  change Calls _ _ #[.slice A0 n0 c0, .slice (some ⟨g + 1, 0, none⟩) 1 1] ((w0.alloc (.cells hz32.toArray 22)).alloc (.cells #[Value.int .i64 20] 3)) _
  have K0 := HO.out _ rfl _ rfl
  obtain ⟨w3, hw3⟩ : ∃ w3, (w0.alloc (.cells hz32.toArray 22)).alloc (.cells #[Value.int .i64 20] 3) = w3 := ⟨_, rfl⟩
  rw [hw3] at K0 ⊢
  clear hw3 HO hgo
  obtain ⟨z3, b3, k3⟩ := K0
  have KC := KB.out w3 _ (hr.out.below (by have := b3; rw [← hg.out] at this; exact this)) k3
  unfold hfinr at HV
  obtain ⟨⟨kd, xs, ev⟩, hq⟩ : ∃ q, hbody l [20] = q := ⟨_, rfl⟩
  rw [hq] at KC HV
  simp only at HV
  replace hq := Lib.hid hq
  clear KB k3
  replace z3 := Lib.hid z3
  replace b3 := Lib.hid b3
  refine KC.mono ?_
  rintro e w4 ⟨X, c1, n1, rfl, hlen, hnc, hcc1, hn1000, RX, hblk, ST⟩
  simp only at hlen RX
  have z4 := Lib.hid (by rw [ST.heap]; exact z3.out : w4.heap[g]? = some (.cells hz32.toArray 22 (0, 0)))
  have b4 := Lib.hid (b3.out.trans (ST.below.mono (by have := heap_lt z3.out; omega)))
  have hglt := heap_lt z4.out
  have HE : Hid (∀ (r : List UInt8) (w2 : World), r.length = 32 → w2.heap[g]? = some (.cells (over hz32.toArray 0 (bv r)) 22 (0, 0)) → Fr (fun k => k = g) w4 w2 → w2.heap[g]? = some (.cells (bv r).toArray 22 (0, 0)) ∧ Below g w0 w2) := Lib.hid (fun r w2 hr2 h2 F2 => by
    rw [over_full (bv r) _ (by rw [hz32_size, bv_length, hr2])] at h2
    exact ⟨h2, bel_at b4.out (Nat.le_of_lt hglt) (Nat.le_refl _) F2⟩)
  clear KC ST z3 b3
  have h0z : hz32 = bv (List.replicate 32 0) := rfl
  by_cases he : ev = 0
  · subst he
    replace HV := HV.out
    rw [if_neg (by simp)] at HV
    by_cases h32 : n1 = 32
    · subst h32
      rw [hlen, if_neg (by simp)] at HV
      obtain ⟨b, off, rfl, gm⟩ := RX.at_ (k := 0) (by rw [bv_length, hlen]; omega)
      have hap : ∀ w : World, (Instr.arrayAt 22 (.slice (some ⟨b, off, none⟩) 32 c1)).run Try.prog w = .ok (.pointer (some ⟨b, off, none⟩)) w := fun w => by
        simp [Instr.arrayAt, run_underlying Try.underlying22]
      have hRr : Hid (w4.rangeAt b off (bv xs)) := Lib.hid (fun q v hv => by
        obtain ⟨b', off', e', hc'⟩ := RX (by rw [bv_length, hlen]; omega)
        injection e' with e'
        injection e' with e1 e2
        subst e1 e2
        exact hc' q v hv)
      have hbl : (bv xs).length = 32 := by rw [bv_length, hlen]
      have HV2 : Hid (V = (xs, 36, 0)) := Lib.hid HV
      replace hlen := Lib.hid hlen
      replace RX := Lib.hid RX
      replace hblk := Lib.hid hblk
      replace hbl := Lib.hid hbl
      clear gm h0z HV
      go_wp2_with (first | (refine wpList_load_mid rfl 22 (.tmp 26) rfl b off rfl (bv xs) _ hRr.out Try.underlying22 rfl (by rw [hbl.out]; exact hinfo22) ?_) | (refine wpList_store_block rfl 22 (.tmp 2) (.tmp 27) rfl g 0 (bv xs) rfl rfl hz32.toArray _ z4.out (by rw [hbl.out, hz32_size]; exact Nat.le_refl _) (by rw [hbl.out]; exact hinfo22) (bv_one _) ?_; intro w2 h2 F2; have HF2 := Lib.hid (HE.out xs w2 hlen.out h2 F2); clear h2 F2))
      refine bodyPost_ret (results_cell3 Try.results20 _ w2 g 22 (bv xs).toArray _ rfl HF2.out.1 Try.underlying22 rfl (by rw [List.size_toArray, hbl.out]; exact hinfo22)) rfl ?_
      rw [HV2.out]
      exact ⟨rfl, hlen.out, by rw [hg.out]; exact HF2.out.2⟩
    · rw [hlen, if_pos (by simpa using h32)] at HV
      have d1 : ((n1 : Int) != 32) = true := by rw [bne_iff_ne]; omega
      have HV2 : Hid (V = (List.replicate 32 0, 0, 5)) := Lib.hid HV
      replace hlen := Lib.hid hlen
      replace RX := Lib.hid RX
      replace hblk := Lib.hid hblk
      replace h0z := Lib.hid h0z
      clear HV
      go_wp2_with (refine wpList_store_block rfl 22 (.tmp 2) (.tmp 24) rfl g 0 hz32 rfl rfl hz32.toArray _ z4.out (Nat.le_of_eq hz32_size.symm) hinfo22 (bv_one _) ?_; intro w2 h2 F2; have HF2 := Lib.hid (HE.out (List.replicate 32 0) w2 (by simp) h2 F2); clear h2 F2)
      refine bodyPost_ret (results_cell3 Try.results20 _ w2 g 22 (bv (List.replicate 32 0)).toArray _ rfl HF2.out.1 Try.underlying22 rfl hinfo22) rfl ?_
      rw [HV2.out]
      exact ⟨rfl, by simp, by rw [hg.out]; exact HF2.out.2⟩
  · replace HV := HV.out
    rw [if_pos he] at HV
    have d1 : (ev != 0) = true := by rw [bne_iff_ne]; exact he
    have HV2 : Hid (V = (List.replicate 32 0, 0, ev)) := Lib.hid HV
    replace hlen := Lib.hid hlen
    replace RX := Lib.hid RX
    replace hblk := Lib.hid hblk
    replace h0z := Lib.hid h0z
    clear HV
    go_wp2_with (refine wpList_store_block rfl 22 (.tmp 2) (.tmp 18) rfl g 0 hz32 rfl rfl hz32.toArray _ z4.out (Nat.le_of_eq hz32_size.symm) hinfo22 (bv_one _) ?_; intro w2 h2 F2; have HF2 := Lib.hid (HE.out (List.replicate 32 0) w2 (by simp) h2 F2); clear h2 F2)
    refine bodyPost_ret (results_cell3 Try.results20 _ w2 g 22 (bv (List.replicate 32 0)).toArray _ rfl HF2.out.1 Try.underlying22 rfl hinfo22) rfl ?_
    rw [HV2.out]
    exact ⟨rfl, by simp, by rw [hg.out]; exact HF2.out.2⟩
end Go.Proofs.Ytlepceajpgloeaa
