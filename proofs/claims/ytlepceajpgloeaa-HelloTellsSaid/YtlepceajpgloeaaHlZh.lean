/- reads: what bytes tell is the document's. -/
import Derived.Test.YtlepceajpgloeaaHlZg
namespace Go.Proofs.Ytlepceajpgloeaa
open Go.RowKit

theorem hgl_small : ∀ (j : Nat) (l : List UInt8) (acc ids : List (List UInt8)), hgl j l acc = some ids → ids.length = acc.length + j ∧ ∀ i ∈ ids, i ∈ acc ∨ i.length = 8
  | 0, [], acc, ids, h => by
    injection h with h
    subst h
    exact ⟨rfl, fun i hi => .inl hi⟩
  | 0, _ :: _, acc, ids, h => by cases h
  | j + 1, l, acc, ids, h => by
    rw [hgl] at h
    by_cases hc : l.length < 9 ∨ l.getD 0 0 ≠ 8
    · rw [if_pos hc] at h; cases h
    · rw [if_neg hc] at h
      obtain ⟨h1, h2⟩ := hgl_small j _ _ _ h
      refine ⟨by rw [h1, List.length_append]; simp; omega, fun i hi => ?_⟩
      rcases h2 i hi with h3 | h3
      · rcases List.mem_append.1 h3 with h4 | h4
        · exact .inl h4
        · rw [List.mem_singleton.1 h4]
          exact .inr (by have h9 : ¬ l.length < 9 := fun h => hc (.inl h); rw [List.length_take, List.length_drop]; omega)
      · exact .inr h3
theorem hget_small (l : List UInt8) : (hget l).1.ids.length ≤ 4 ∧ ∀ i ∈ (hget l).1.ids, i.length = 8 := by
  unfold hget
  split
  · exact ⟨by simp [hzero], fun i hi => by cases hi⟩
  · split
    · exact ⟨by simp [hzero], fun i hi => by cases hi⟩
    · split
      · exact ⟨by simp [hzero], fun i hi => by cases hi⟩
      · rename_i h1 h2 h3
        obtain ⟨q, hq⟩ : ∃ q, hgl (((hbody l [1, 2]).2.1.getD 32 0).toNat) ((hbody l [1, 2]).2.1.drop 33) [] = q := ⟨_, rfl⟩
        rw [hq]
        cases q with
        | none => exact ⟨by simp [hfin, hzero], fun i hi => by cases hi⟩
        | some ids =>
          obtain ⟨h4, h5⟩ := hgl_small _ _ _ _ hq
          refine ⟨?_, fun i hi => ?_⟩
          · show ids.length ≤ 4
            rw [h4, List.length_nil]; omega
          · rcases h5 i hi with h6 | h6
            · cases h6
            · exact h6
/-- OverBytes over a block of bytes: the block stays one of as many bytes. -/
def BlkB (w : World) (g c : Nat) : Prop := ∃ cur : Array Value, w.heap[g]? = some (.cells cur 5 (0, 0)) ∧ cur.size = c
theorem BlkB.fr {S : Nat → Prop} {w w' : World} {g c : Nat} (h : BlkB w g c) (F : Fr S w w') (hS : ¬ S g) : BlkB w' g c := by
  obtain ⟨cur, h1, h2⟩ := h
  exact ⟨cur, heap_fr h1 F hS, h2⟩
theorem BlkB.set {w : World} {g c : Nat} (h : BlkB w g c) (k : Nat) (v : Value) : BlkB (w.setCell ⟨g, k, none⟩ v) g c := by
  obtain ⟨cur, h1, h2⟩ := h
  exact ⟨_, heap_setCell_same w g k _ _ v h1, by simpa using h2⟩
theorem BlkB.cell {w : World} {g c : Nat} (h : BlkB w g c) {k : Nat} (hk : k < c) : (∃ v, w.cell? ⟨g, k, none⟩ = some v) ∧ w.frozen? ⟨g, k, none⟩ = false := by
  obtain ⟨cur, h1, h2⟩ := h
  exact ⟨⟨_, wrote_cell h1 k (cur[k]'(by omega)) (Array.getElem?_eq_getElem (by omega))⟩, frozen_of_row w g k _ _ h1⟩
set_option maxRecDepth 100000 in
set_option maxHeartbeats 2000000 in
theorem over_blk (g n c : Nat) (w : World) (h : BlkB w g c) (hn : n ≤ 1000) (hnc : n ≤ c) :
    Calls Try.prog 29 #[.slice (some ⟨g, 0, none⟩) n c] w fun e w' => e = .returned (.tuple #[]) ∧ Fr (fun q => q = g) w w' ∧ BlkB w' g c := by
  obtain ⟨i0, hi, hz0, hz1, hz2⟩ := info_parts infoB
  replace hi := Lib.hid hi
  replace hz0 := Lib.hid hz0
  replace hz1 := Lib.hid hz1
  replace hz2 := Lib.hid hz2
  replace h := Lib.hid h
  go_enter Try.func29, Try.ntmps29
  go_wp2_with fail
  go_loopw [2] (fun i wr => ∃ k : Nat, k ≤ n ∧ i = .int .i64 k ∧ Hid (BlkB wr g c ∧ Fr (fun q => q = g) w wr)) (fun i _ => n - (intOf i).toNat)
  case atStart => exact ⟨0, by omega, rfl, Lib.hid ⟨h.out, Fr.refl _ _⟩⟩
  case round =>
    obtain ⟨k, hk, rfl, HS⟩ := hrel
    by_cases hkn : k < n
    · rename_i aa; clear aa
      obtain ⟨⟨u, z0⟩, z1⟩ := HS.out.1.cell (k := k) (by omega)
      have HF : Hid (∀ W, W = wr.setCell ⟨g, k, none⟩ (.int .u8 238) → BlkB W g c ∧ Fr (fun q => q = g) w W) := Lib.hid (by
        rintro W rfl
        exact ⟨HS.out.1.set k _, HS.out.2.trans ((Fr.refl (fun q => q = g) wr).setCell (p := ⟨g, k, none⟩) (fun _ => rfl) _)⟩)
      clear HS
      go_wp2_with fail
      go_roundw
      case rel => exact ⟨k + 1, by omega, by go_num, Lib.hid (HF.out _ rfl)⟩
      case measure => simp [intOf]; omega
    · have hk' : k = n := by omega
      have HB : Hid (∀ o, BlkB (wr.alloc o) g c) := Lib.hid (fun o => HS.out.1.fr ((Fr.refl NoS wr).alloc o) (fun x => x))
      have HFr : Hid (∀ o, Fr (fun q => q = g) w (wr.alloc o)) := Lib.hid (fun o => HS.out.2.trans ((Fr.refl _ wr).alloc o))
      clear HS
      go_wp2_with (at_builtin; refine Hid.out ?_)
      refine Lib.hid ?_
      have HO := HB.out (.cells #[.int .u8 238] 5)
      have hF := HFr.out (.cells #[.int .u8 238] 5)
      have hRd := Rd.fresh_mark wr (bv [238]) 5 (0, 0)
      obtain ⟨cur, h1, h2⟩ := HO
      have hcell : ∀ j u, (cur.toList.take n)[j]? = some u → (wr.alloc (.cells #[.int .u8 238] 5)).cell? ⟨g, 0 + j, none⟩ = some u := fun j u hu => by
        rw [Nat.zero_add]
        refine wrote_cell h1 j u ?_
        rw [List.getElem?_take] at hu
        split at hu
        · simpa using hu
        · cases hu
      refine wpList_append_arg _ rfl _ _ 24 rfl 5 i0 (.int .u8 0) 1 1 Try.underlying24 hi.out hz0.out hz1.out hz2.out rfl (by decide) g 0 n c (cur.toList.take n) rfl (by simp; omega) hcell ⟨wr.heap.size, 0, none⟩ 1 1 (bv [238]) rfl rfl hRd.cells (bv_one _) ?sp (by unfold maxLen; omega) (by omega) ?rm ?gr
      case sp =>
        intro hle j hj
        simp only [bv_length, List.length_singleton] at hj
        have hx : 0 + n * 1 + j < cur.size := by omega
        exact ⟨by rw [cell_of_row _ g _ cur _ (0, 0) h1, Array.getElem?_eq_getElem hx]; rfl, frozen_of_row _ g _ _ _ h1⟩
      case rm =>
        intro _
        have hW : BlkB ((wr.alloc (.cells #[.int .u8 238] 5)).setCells g (0 + n * 1) (bv [238])) g c := by
          exact BlkB.set ⟨cur, h1, h2⟩ _ _
        have hW2 : Fr (fun q => q = g) w ((wr.alloc (.cells #[.int .u8 238] 5)).setCells g (0 + n * 1) (bv [238])) := hF.trans (fr_setCells _ _ _ _)
        obtain ⟨W, hWe⟩ : ∃ W, (wr.alloc (.cells #[.int .u8 238] 5)).setCells g (0 + n * 1) (bv [238]) = W := ⟨_, rfl⟩
        rw [hWe] at hW hW2 ⊢
        replace hWe := Lib.hid hWe
        replace hW := Lib.hid hW
        replace hW2 := Lib.hid hW2
        clear hRd hcell h1 h2 hF HFr HB
        go_wp2_with fail
        go_end0
        exact ⟨rfl, hW2.out, hW.out⟩
      case gr =>
        intro _ v' w' _ hg
        have hF3 : Fr NoS (wr.alloc (.cells #[.int .u8 238] 5)) w' := (Fr.refl NoS _).grown hg (fun k hk => by cases hk)
        have hW : BlkB w' g c := BlkB.fr ⟨cur, h1, h2⟩ hF3 (fun x => x)
        have hW2 : Fr (fun q => q = g) w w' := hF.trans (hF3.mono (fun _ x _ => x.elim))
        replace hW := Lib.hid hW
        replace hW2 := Lib.hid hW2
        clear hRd hcell h1 h2 hF HFr HB hg hF3
        go_wp2_with fail
        go_end0
        exact ⟨rfl, hW2.out, hW.out⟩
/-- A row of rows of bytes, none of them empty: each lies in a block of bytes. -/
structure IdB (base : Nat) (w : World) (A : Option Addr) (n c : Nat) (m : Nat) : Prop where
  at_ : ∀ k, k < n → ∃ b off g ck, A = some ⟨b, off, none⟩ ∧ base ≤ b ∧ base ≤ g ∧ w.cell? ⟨b, off + k, none⟩ = some (.slice (some ⟨g, 0, none⟩) m ck) ∧ m ≤ ck ∧ BlkB w g ck ∧ b ≠ g
theorem Ids.idb {base : Nat} {w : World} {A : Option Addr} {n c m : Nat} {ids : List (List UInt8)} (h : Ids base w A n c ids) (hm : ∀ i ∈ ids, i.length = m) (h0 : 0 < m) : IdB base w A n c m := by
  obtain ⟨vs, h1, h2, h3⟩ := h
  refine ⟨fun k hk => ?_⟩
  have hki : k < ids.length := by omega
  obtain ⟨Ak, ck, q1, q2⟩ := h3 k _ (List.getElem?_eq_getElem hki)
  have hl := hm _ (List.getElem_mem hki)
  rw [hl] at q1 q2
  have hvl : k < vs.length := (List.getElem?_eq_some_iff.1 q1).1
  rcases h1.2 with ⟨e, e2⟩ | ⟨b, cap, cur, hv, hb, hg, -⟩
  · injection e with _ e _; omega
  · injection hv with hA _ _
    subst hA
    obtain ⟨b', off', e', hc⟩ := Rd.of_own h1 (by omega)
    injection e' with e'
    injection e' with e1 e2
    subst e1 e2
    rcases q2.2 with ⟨e, e2⟩ | ⟨g, cap', cur', hv', hb', hg', hnc', _, hcs', _⟩
    · omega
    · injection hv' with hA' _ hc'
      subst hA' hc'
      refine ⟨b, 0, g, ck, rfl, hb, hb', hc k _ q1, hnc', ⟨cur', hg', by simpa using hcs'⟩, fun e => ?_⟩
      subst e
      rw [hg] at hg'
      injection hg' with e
      injection e with _ e
      exact absurd e (by decide)
theorem IdB.below {base : Nat} {w w' : World} {A : Option Addr} {n c m : Nat} (h : IdB base w A n c m) (B : Below w.heap.size w w') : IdB base w' A n c m := by
  refine ⟨fun k hk => ?_⟩
  obtain ⟨b, off, g, ck, h1, h2, h3, h4, h5, h6, h7⟩ := h.at_ k hk
  exact ⟨b, off, g, ck, h1, h2, h3, (B.cell (p := ⟨b, off + k, none⟩) (World.block_lt_of_cell? w _ h4)).trans h4, h5, h6.fr (Fr.of_below B NoS) (fun x => x), h7⟩
/-- Behind OverBytes of one of them. -/
theorem IdB.over {base : Nat} {w w' : World} {A : Option Addr} {n c m g ck : Nat} (h : IdB base w A n c m) (hB : BlkB w g ck) (hB' : BlkB w' g ck) (F : Fr (fun q => q = g) w w') (hne : ∀ a, A = some a → a.block ≠ g) : IdB base w' A n c m := by
  refine ⟨fun k hk => ?_⟩
  obtain ⟨b, off, g', ck', h1, h2, h3, h4, h5, h6, h7⟩ := h.at_ k hk
  refine ⟨b, off, g', ck', h1, h2, h3, (F.cell (p := ⟨b, off + k, none⟩) (World.block_lt_of_cell? w _ h4) (fun e => hne _ h1 e)).trans h4, h5, ?_, h7⟩
  by_cases e : g' = g
  · subst e
    obtain ⟨cur, q1, q2⟩ := hB
    obtain ⟨cur', q3, q4⟩ := h6
    rw [q1] at q3
    injection q3 with q3
    injection q3 with q3 _
    subst q3
    rw [← q4, q2]
    exact hB'
  · exact h6.fr F e
end Go.Proofs.Ytlepceajpgloeaa
