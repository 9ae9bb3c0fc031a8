/- cids: Add. -/
import Derived.Test.YtgmanhbfdjlhbaaCdL
import Derived.Deep.RegionHeld3
import Derived.Deep.CutRange
import Derived.Deep.RegionLaw
namespace Go.Proofs.Ytgmanhbfdjlhbaa
open Go.RowKit

section
variable {w w' : World} {p : Nat} {A : Option Addr} {c : Nat} {l : List Nx} {use : Int}
set_option maxRecDepth 100000 in
set_option maxHeartbeats 4000000 in
theorem cadd_form_any (q : Nat) (C B : Option Addr) (nc cc nb cb : Nat) (w : World) (hf : ¬ (nc = 8 ∧ nb = 16)) :
    Calls Try.prog 11 #[.pointer (some ⟨p, 0, none⟩), .int .u64 (q : Int), .slice C nc cc, .slice B nb cb] w fun e w' => e = .returned (.int .i64 5) ∧ w = w' := by
  obtain ⟨Q, hQ⟩ : ∃ Q : Int, (q : Int) = Q := ⟨_, rfl⟩
  rw [hQ]
  clear hQ
  by_cases h1 : nc = 8
  · subst h1
    have b2 : ((nb : Int) != 16) = true := by rw [bne_iff_ne]; omega
    have b1 : ((8 : Nat) : Int) = 8 := rfl
    clear hf
    go_enter Try.func11, Try.ntmps11
    go_wp2_with fail
    go_ret
    exact ⟨rfl, rfl⟩
  · have b1 : ((nc : Int) != 8) = true := by rw [bne_iff_ne]; omega
    clear hf h1
    go_enter Try.func11, Try.ntmps11
    go_wp2_with fail
    go_ret
    exact ⟨rfl, rfl⟩

/-- The new name's cells. -/
theorem new12 {q : Nat} {cid tok : List UInt8} {B' : Option Addr} {c' : Nat} (h8 : cid.length = 8) (h16 : tok.length = 16) {y0 y1 y2 y3 y4 y5 y6 y7 : Int} (hy : bv cid = [.int .u8 y0, .int .u8 y1, .int .u8 y2, .int .u8 y3, .int .u8 y4, .int .u8 y5, .int .u8 y6, .int .u8 y7]) :
    (⟨⟨q, cid, tok, -1, false⟩, B', c'⟩ : Nx).cells = [.int .u64 (q : Int), .int .u8 y0, .int .u8 y1, .int .u8 y2, .int .u8 y3, .int .u8 y4, .int .u8 y5, .int .u8 y6, .int .u8 y7, .slice B' 16 c', .int .i64 (-1), .bool false] := by
  unfold Nx.cells; simp only [pad8_id h8, hy, h16]; rfl

/-- A whole record stored into a block of its size. -/
theorem store_all {w : World} {b : Nat} {T : TypeId} {zs : List Value} (h : w.heap[b]? = some (.cells zs.toArray T (0, 0))) (vs : List Value) (hl : vs.length = zs.length) :
    (w.setCells b 0 vs).heap[b]? = some (.cells vs.toArray T (0, 0)) ∧ Fr (fun j => j = b) w (w.setCells b 0 vs) := by
  have o : w.ownsRow 0 T zs.length (.slice (some ⟨b, 0, none⟩) 1 1) 1 zs := ⟨by omega, .inr ⟨b, 1, zs.toArray, rfl, Nat.zero_le _, h, Nat.le_refl _, by simp [maxLen], by simp, by simp⟩⟩
  obtain ⟨o2, F⟩ := own_setCells vs 0 w zs o (by omega)
  refine ⟨?_, F⟩
  rw [List.take_zero, List.nil_append, Nat.zero_add, List.drop_eq_nil_of_le (by omega), List.append_nil] at o2
  rcases o2.2 with ⟨h', _⟩ | ⟨g', cap', cur, h', hb, hg, hnc, hcm, hcs, htake⟩
  · cases h'
  · injection h' with h1 _ h3
    injection h1 with h1
    injection h1 with h1
    subst h1 h3
    rw [hg]
    have e : cur = vs.toArray := by
      rw [List.take_of_length_le (by rw [Array.length_toList, hcs]; omega)] at htake
      rw [← htake]
    rw [e]

set_option maxHeartbeats 4000000 in
theorem cins_any (h : IsCd w p A c l use) (hl : l.length ≤ 99) (W : World) (hb : Below w.heap.size w W) (nn : Nx) (pos : Nat) (hpos : pos ≤ l.length) (hB : Rd W nn.A (bv nn.x.tok)) (hBc : nn.x.tok.length ≤ nn.c ∧ nn.c ≤ 9223372036854775807) (hid : nn.x.id.length = 8) (hBa : ∀ a, nn.A = some a → w.heap.size ≤ a.block ∧ a.block < W.heap.size) (L : Nat) (hL : l.length = L) (T : TypeId) (hT : T = 57) :
    Calls Try.prog 31 #[.slice A L c, .int .i64 pos, .slice (some ⟨W.heap.size, 0, none⟩) 1 1] (W.alloc (.cells nn.cells.toArray T)) fun e w' => ∃ A' c', e = .returned (.slice A' (L + 1) c') ∧ w'.cell? ⟨p, 0, none⟩ = some (.slice A L c) ∧ w'.frozen? ⟨p, 0, none⟩ = false ∧
      IsCd (w'.setCell ⟨p, 0, none⟩ (.slice A' (L + 1) c')) p A' c' (l.take pos ++ nn :: l.drop pos) use ∧ Fr (OnB p A) w (w'.setCell ⟨p, 0, none⟩ (.slice A' (L + 1) c')) ∧ ∀ k, OnC p A' (l.take pos ++ nn :: l.drop pos) k → OnC p A l k ∨ w.heap.size ≤ k := by
  subst hT
  have I := h.below hb
  have hne : ∀ a, A = some a → a.block < w.heap.size ∧ a.block ≠ p := fun a ha => by
    rcases h.at with h1 | ⟨g, h1, h2, h3⟩
    · rw [h1] at ha; cases ha
    · rw [h1] at ha; injection ha with ha; subst ha; exact ⟨h3, fun e => h2 e.symm⟩
  have hws := hb.size
  have := insert_any l A c pos W.heap.size nn (W.alloc (.cells nn.cells.toArray 57)) (I.alloc _).row (by omega) hpos (heap_alloc_new W _) (fun a ha => by have := (hne a ha).1; omega)
  rw [hL] at this
  refine this.mono ?_
  rintro e w' ⟨A', c', rfl, o', F', N'⟩
  have F0 : Fr (fun j => ∃ a, A = some a ∧ a.block = j) W w' := ((Fr.refl _ W).alloc _).trans F'
  have F1 : Fr (fun j => ∃ a, A = some a ∧ a.block = j) w w' := (Fr.of_below hb _).trans F0
  have hp1 : w'.heap[p]? = some (.cells #[.slice A l.length c, .int .i64 use] 60 (0, 0)) := heap_fr h.cell F1 (by rintro ⟨a, ha, e⟩; exact (hne a ha).2 e)
  have F2 : Fr (fun j => j = p) w' (w'.setCell ⟨p, 0, none⟩ (.slice A' (L + 1) c')) := (Fr.refl (fun j => j = p) w').setCell (p := ⟨p, 0, none⟩) (fun _ => rfl) _
  have hlr : (l.take pos ++ nn :: l.drop pos).length = L + 1 := by rw [List.length_append, List.length_cons, List.length_take, List.length_drop]; omega
  have hA'p : ∀ j, (Value.slice A' (L + 1) c').ownBlock = some j → j ≠ p := by
    intro j hj e
    subst e
    rcases ownS_cases o' with ⟨h1, _⟩ | ⟨g, h1, _⟩
    · rw [h1] at hj; cases hj
    · subst h1
      injection hj with hj
      simp only at hj
      subst hj
      exact own_typed o' hp1 rfl rfl
  have hpl := h.lt
  have hmem : ∀ n ∈ l.take pos ++ nn :: l.drop pos, n = nn ∨ n ∈ l := by
    intro n hn
    rcases List.mem_append.1 hn with hn | hn
    · exact .inr (List.mem_of_mem_take hn)
    · rcases List.mem_cons.1 hn with hn | hn
      · exact .inl hn
      · exact .inr (List.mem_of_mem_drop hn)
  have hA' : ∀ b, A' = some b → (∃ a, A = some a ∧ a.block = b.block) ∨ W.heap.size < b.block := fun b hb' => by
    rcases N' b hb' with h1 | h1
    · exact .inl h1
    · right
      have h2 : W.heap.size + 1 ≤ b.block := by simpa using h1
      omega
  refine ⟨A', c', rfl, by have := wrote_cell hp1 0 _ rfl; rw [hL] at this; exact this, frozen_of_row w' p 0 _ _ hp1, ⟨?_, ?_, fun n hn => ?_, fun n hn => ?_, by omega, fun n hn a ha => ?_⟩, (F1.mono (fun j hj _ => .inr hj)).trans (F2.mono (fun j hj _ => .inl hj)), fun k hk => ?_⟩
  · have := heap_setCell_same w' p 0 _ _ (.slice A' (L + 1) c') hp1
    rw [this]
    simp only [hlr]
    rfl
  · rw [hlr]
    exact own_fr o' F2 (fun j hj => hA'p j hj)
  · rcases hmem n hn with e | e
    · rw [e]
      refine ⟨(hB.fr F0 (fun _ a ha hk => ?_)).fr F2 (fun _ a ha hk => ?_), hBc⟩
      · obtain ⟨b, hb1, hb2⟩ := hk
        have := (hne b hb1).1; have := (hBa a ha).1; omega
      · have := (hBa a ha).1; omega
    · refine ⟨((h.tok n e).1.fr F1 (fun _ a ha hk => ?_)).fr F2 (fun _ a ha hk => ?_), (h.tok n e).2⟩
      · obtain ⟨b, hb1, hb2⟩ := hk
        exact (h.far n e a ha).2.2 b hb1 hb2.symm
      · exact (h.far n e a ha).2.1 hk
  · rcases hmem n hn with e | e
    · rw [e]; exact hid
    · exact h.ids n e
  · have hs : W.heap.size ≤ (w'.setCell ⟨p, 0, none⟩ (.slice A' (L + 1) c')).heap.size := Nat.le_trans F0.size F2.size
    rcases hmem n hn with e | e
    · rw [e] at ha
      have hba := hBa a ha
      refine ⟨by omega, by omega, fun b hb' => ?_⟩
      rcases hA' b hb' with ⟨a2, ha2, e2⟩ | e2
      · have := (hne a2 ha2).1; omega
      · omega
    · have hfa := h.far n e a ha
      refine ⟨by omega, hfa.2.1, fun b hb' => ?_⟩
      rcases hA' b hb' with ⟨a2, ha2, e2⟩ | e2
      · have := hfa.2.2 a2 ha2; omega
      · omega
  · rcases hk with hk | ⟨b, hb', hk⟩ | ⟨n, hn, a, ha, hk⟩
    · exact .inl (.inl hk)
    · rcases hA' b hb' with ⟨a2, ha2, e2⟩ | e2
      · exact .inl (.inr (.inl ⟨a2, ha2, by omega⟩))
      · exact .inr (by omega)
    · rcases hmem n hn with e | e
      · rw [e] at ha
        have := (hBa a ha).1
        exact .inr (by omega)
      · exact .inl (.inr (.inr ⟨n, e, a, ha, hk⟩))

set_option maxRecDepth 100000 in
set_option maxHeartbeats 8000000 in
theorem cadd_any0 (h : IsCd w p A c l use) (hl : l.length ≤ 99) (rise : (nms l).Pairwise (fun a b => a.seq < b.seq)) (ne : (nms l).Pairwise NmNe) (q : Nat) (cid tok : List UInt8) (C B : Option Addr) (cc cb : Nat) (h8 : cid.length = 8) (h16 : tok.length = 16) (hC : Rd w C (bv cid)) (hB : Rd w B (bv tok)) :
    Calls Try.prog 11 #[.pointer (some ⟨p, 0, none⟩), .int .u64 (q : Int), .slice C 8 cc, .slice B 16 cb] w fun e w' => e = .returned (.int .i64 (caddE (nms l) q cid tok)) ∧ ∃ A' c' l', IsCd w' p A' c' l' use ∧ nms l' = (cadd ⟨nms l, use⟩ q cid tok).l ∧ Fr (OnB p A) w w' ∧ ∀ k, OnC p A' l' k → OnC p A l k ∨ w.heap.size ≤ k := by
  obtain ⟨y0, y1, y2, y3, y4, y5, y6, y7, hy⟩ := bv8 cid h8
  obtain ⟨bC, oC, rfl, hc⟩ := hC (by rw [bv_length]; omega)
  obtain ⟨bB, oB, rfl, _⟩ := hB (by rw [bv_length]; omega)
  have hAA := run_arr8 (some ⟨bC, oC, none⟩) cc
  have KS : Hid (∀ W, Below w.heap.size w W → W.cell? ⟨bC, oC, none⟩ = some (.int .u8 y0) ∧ W.cell? ⟨bC, oC + 1, none⟩ = some (.int .u8 y1) ∧ W.cell? ⟨bC, oC + 2, none⟩ = some (.int .u8 y2) ∧ W.cell? ⟨bC, oC + 3, none⟩ = some (.int .u8 y3) ∧ W.cell? ⟨bC, oC + 4, none⟩ = some (.int .u8 y4) ∧ W.cell? ⟨bC, oC + 5, none⟩ = some (.int .u8 y5) ∧ W.cell? ⟨bC, oC + 6, none⟩ = some (.int .u8 y6) ∧ W.cell? ⟨bC, oC + 7, none⟩ = some (.int .u8 y7)) := Lib.hid (fun W hb => by
    rw [hy] at hc
    have k := fun j u (hu : ([Value.int .u8 y0, .int .u8 y1, .int .u8 y2, .int .u8 y3, .int .u8 y4, .int .u8 y5, .int .u8 y6, .int .u8 y7] : List Value)[j]? = some u) => (hb.cell (World.block_lt_of_cell? w _ (hc j u hu))).trans (hc j u hu)
    exact ⟨k 0 _ rfl, k 1 _ rfl, k 2 _ rfl, k 3 _ rfl, k 4 _ rfl, k 5 _ rfl, k 6 _ rfl, k 7 _ rfl⟩)
  have CC := Lib.hid (fun W (hb : Below w.heap.size w W) => clone_to tok 16 (some ⟨bB, oB, none⟩) cb W h16 (hB.below hb) (fun e => by cases e) (by omega))
  have K0 := KS.out w (Below.refl _ w)
  obtain ⟨Q, hQ⟩ : ∃ Q : Int, (q : Int) = Q := ⟨_, rfl⟩
  rw [hQ]
  obtain ⟨E, hE⟩ : ∃ E, caddE (nms l) q cid tok = E := ⟨_, rfl⟩
  obtain ⟨RL, hRL⟩ : ∃ RL, (cadd ⟨nms l, use⟩ q cid tok).l = RL := ⟨_, rfl⟩
  have HIT : Hid (∀ y ∈ l, (y.x.seq = q ∨ y.x.id = cid) → E = (if y.x.seq = q ∧ y.x.id = cid ∧ y.x.tok = tok then 0 else 12) ∧ RL = nms l) := Lib.hid (fun y hy hq => by
    rw [← hE, ← hRL]; exact cadd_hit h8 h16 ne hy hq)
  have MISS : Hid ((∀ y ∈ l, ¬ (y.x.seq = q ∨ y.x.id = cid)) → E = (if cfree (nms l) = 8 then 9 else 0) ∧ (cfree (nms l) = 8 → RL = nms l) ∧ (cfree (nms l) ≠ 8 → ∀ B' c', nms (l.take (cpos l q) ++ ⟨⟨q, cid, tok, -1, false⟩, B', c'⟩ :: l.drop (cpos l q)) = RL)) := Lib.hid (fun hno => by
    obtain ⟨m1, m2⟩ := cadd_miss h8 h16 hno
    rw [← hE, ← hRL]
    refine ⟨m1, fun hf => ?_, fun hf B' c' => ?_⟩
    · unfold cadd; rw [m2, decide_eq_false (by simpa using hf)]; rfl
    · unfold cadd; rw [m2, decide_eq_true hf, if_pos rfl]; exact cins_at ⟨⟨q, cid, tok, -1, false⟩, B', c'⟩ l)
  have FIN : Hid (∀ W, Below w.heap.size w W → RL = nms l → ∃ A' c' l', IsCd W p A' c' l' use ∧ nms l' = RL ∧ Fr (OnB p A) w W ∧ ∀ k, OnC p A' l' k → OnC p A l k ∨ w.heap.size ≤ k) := Lib.hid (fun W hb hr => ⟨A, c, l, h.below hb, hr.symm, Fr.of_below hb _, fun k hk => .inl hk⟩)
  rw [hE, hRL]
  have HH := Lib.hid h
  replace hE := Lib.hid hE
  replace hRL := Lib.hid hRL
  replace hQ := Lib.hid hQ
  replace hy := Lib.hid hy
  replace hB := Lib.hid hB
  replace h8 := Lib.hid h8
  replace h16 := Lib.hid h16
  replace rise := Lib.hid rise
  replace ne := Lib.hid ne
  clear h hc hC
  go_enter Try.func11, Try.ntmps11
  go_wp2_with fail
  go_cut [9] from 26 to 32 (fun v wx => ∃ (vb : Nat) (B' : Option Addr) (c' : Nat), v = .pointer (some ⟨vb, 0, none⟩) ∧ Hid (wx.heap[vb]? = some (.cells #[.int .u64 Q, .int .u8 y0, .int .u8 y1, .int .u8 y2, .int .u8 y3, .int .u8 y4, .int .u8 y5, .int .u8 y6, .int .u8 y7, .slice B' 16 c', .int .i64 (-1), .bool false] 57 (0, 0)) ∧ w.heap.size ≤ vb ∧ Below w.heap.size w wx ∧ wx.ownsRow w.heap.size 5 1 (.slice B' 16 c') 16 (bv tok) ∧ ∀ a, B' = some a → a.block ≠ vb))
  case first =>
    have bd : Below w.heap.size w w.drew := (Still.drew w).below
    have hz0 : (w.alloc (.cells #[.int .u64 0, .int .u8 0, .int .u8 0, .int .u8 0, .int .u8 0, .int .u8 0, .int .u8 0, .int .u8 0, .int .u8 0, .slice none 0 0, .int .i64 0, .bool false] 57)).drew.heap[w.heap.size]? = some (.cells #[.int .u64 0, .int .u8 0, .int .u8 0, .int .u8 0, .int .u8 0, .int .u8 0, .int .u8 0, .int .u8 0, .int .u8 0, .slice none 0 0, .int .i64 0, .bool false] 57 (0, 0)) := heap_alloc_new w _
    have bA : Below w.heap.size w (w.alloc (.cells #[.int .u64 0, .int .u8 0, .int .u8 0, .int .u8 0, .int .u8 0, .int .u8 0, .int .u8 0, .int .u8 0, .int .u8 0, .slice none 0 0, .int .i64 0, .bool false] 57)).drew := ((Below.refl _ w).alloc (Nat.le_refl _) _).trans ((Still.drew _).below.mono (by simp))
    go_region_held3 (fun W => W.cell? ⟨bC, oC, none⟩ = some (.int .u8 y0) ∧ W.cell? ⟨bC, oC + 1, none⟩ = some (.int .u8 y1) ∧ W.cell? ⟨bC, oC + 2, none⟩ = some (.int .u8 y2) ∧ W.cell? ⟨bC, oC + 3, none⟩ = some (.int .u8 y3) ∧ W.cell? ⟨bC, oC + 4, none⟩ = some (.int .u8 y4) ∧ W.cell? ⟨bC, oC + 5, none⟩ = some (.int .u8 y5) ∧ W.cell? ⟨bC, oC + 6, none⟩ = some (.int .u8 y6) ∧ W.cell? ⟨bC, oC + 7, none⟩ = some (.int .u8 y7)) (first | (with_reducible assumption) | (with_reducible exact KS.out _ bd) | (with_reducible exact KS.out _ bA) | (with_reducible exact KS.out _ bB2) | (with_reducible exact KS.out _ (bB2.alloc bB2.size _)) | (with_reducible exact KS.out _ b12)) (first
      | (go_at_call 27; refine (CC.out _ ((Still.drew w).below)).mono ?_; rintro e w1 ⟨B', c', rfl, oB, bB1⟩; have bB2 : Below w.heap.size w w1 := (Still.drew w).below.trans bB1)
      | (go_at_call 27; refine (CC.out _ bA).mono ?_; rintro e w1 ⟨B', c', rfl, oB, bB1⟩; have bB2 : Below w.heap.size w w1 := bA.trans (bB1.mono bA.size); have ZZ := (bB1.block w.heap.size (by simp)).trans hz0; have z0 := wrote_cell ZZ 0 _ rfl; have z1 := wrote_cell ZZ 1 _ rfl; have z2 := wrote_cell ZZ 2 _ rfl; have z3 := wrote_cell ZZ 3 _ rfl; have z4 := wrote_cell ZZ 4 _ rfl; have z5 := wrote_cell ZZ 5 _ rfl; have z6 := wrote_cell ZZ 6 _ rfl; have z7 := wrote_cell ZZ 7 _ rfl; have z8 := wrote_cell ZZ 8 _ rfl; have z9 := wrote_cell ZZ 9 _ rfl; have z10 := wrote_cell ZZ 10 _ rfl; have z11 := wrote_cell ZZ 11 _ rfl; have fz := fun j => frozen_of_row w1 w.heap.size j _ _ ZZ; have b12 := ((((((((((((bB2.setCell (p := ⟨w.heap.size, 0, none⟩) (Nat.le_refl _) (.int .u64 Q)).setCell (p := ⟨w.heap.size, 1, none⟩) (Nat.le_refl _) (.int .u8 y0)).setCell (p := ⟨w.heap.size, 2, none⟩) (Nat.le_refl _) (.int .u8 y1)).setCell (p := ⟨w.heap.size, 3, none⟩) (Nat.le_refl _) (.int .u8 y2)).setCell (p := ⟨w.heap.size, 4, none⟩) (Nat.le_refl _) (.int .u8 y3)).setCell (p := ⟨w.heap.size, 5, none⟩) (Nat.le_refl _) (.int .u8 y4)).setCell (p := ⟨w.heap.size, 6, none⟩) (Nat.le_refl _) (.int .u8 y5)).setCell (p := ⟨w.heap.size, 7, none⟩) (Nat.le_refl _) (.int .u8 y6)).setCell (p := ⟨w.heap.size, 8, none⟩) (Nat.le_refl _) (.int .u8 y7)).setCell (p := ⟨w.heap.size, 9, none⟩) (Nat.le_refl _) (.slice B' 16 c')).setCell (p := ⟨w.heap.size, 10, none⟩) (Nat.le_refl _) (.int .i64 (-1))).setCell (p := ⟨w.heap.size, 11, none⟩) (Nat.le_refl _) (.bool false))))
    all_goals first
      | (clear z0 z1 z2 z3 z4 z5 z6 z7 z8 z9 z10 z11
         obtain ⟨S1, S2⟩ := store_all (zs := [.int .u64 0, .int .u8 0, .int .u8 0, .int .u8 0, .int .u8 0, .int .u8 0, .int .u8 0, .int .u8 0, .int .u8 0, .slice none 0 0, .int .i64 0, .bool false]) ZZ [.int .u64 Q, .int .u8 y0, .int .u8 y1, .int .u8 y2, .int .u8 y3, .int .u8 y4, .int .u8 y5, .int .u8 y6, .int .u8 y7, .slice B' 16 c', .int .i64 (-1), .bool false] rfl
         obtain ⟨W, hW⟩ : ∃ W, w1.setCells w.heap.size 0 [.int .u64 Q, .int .u8 y0, .int .u8 y1, .int .u8 y2, .int .u8 y3, .int .u8 y4, .int .u8 y5, .int .u8 y6, .int .u8 y7, .slice B' 16 c', .int .i64 (-1), .bool false] = W := ⟨_, rfl⟩
         have hW2 : ((((((((((((w1.setCell ⟨w.heap.size, 0, none⟩ (.int .u64 Q)).setCell ⟨w.heap.size, 1, none⟩ (.int .u8 y0)).setCell ⟨w.heap.size, 2, none⟩ (.int .u8 y1)).setCell ⟨w.heap.size, 3, none⟩ (.int .u8 y2)).setCell ⟨w.heap.size, 4, none⟩ (.int .u8 y3)).setCell ⟨w.heap.size, 5, none⟩ (.int .u8 y4)).setCell ⟨w.heap.size, 6, none⟩ (.int .u8 y5)).setCell ⟨w.heap.size, 7, none⟩ (.int .u8 y6)).setCell ⟨w.heap.size, 8, none⟩ (.int .u8 y7)).setCell ⟨w.heap.size, 9, none⟩ (.slice B' 16 c')).setCell ⟨w.heap.size, 10, none⟩ (.int .i64 (-1))).setCell ⟨w.heap.size, 11, none⟩ (.bool false)) = W := by rw [← hW]; rfl
         rw [hW] at S1 S2
         rw [hW2] at b12 ⊢
         have HB : Hid (W.heap[w.heap.size]? = some (.cells #[.int .u64 Q, .int .u8 y0, .int .u8 y1, .int .u8 y2, .int .u8 y3, .int .u8 y4, .int .u8 y5, .int .u8 y6, .int .u8 y7, .slice B' 16 c', .int .i64 (-1), .bool false] 57 (0, 0)) ∧ w.heap.size ≤ w.heap.size ∧ Below w.heap.size w W ∧ W.ownsRow w.heap.size 5 1 (.slice B' 16 c') 16 (bv tok) ∧ ∀ a, B' = some a → a.block ≠ w.heap.size) := by
           have hge : ∀ j, (Value.slice B' 16 c').ownBlock = some j → w.heap.size + 1 ≤ j := fun j hj => by
             have := (oB.lt j hj).1
             simpa using this
           exact Lib.hid ⟨S1, Nat.le_refl _, b12, own_fr (own_base oB (fun j hj => Nat.le_of_succ_le (hge j hj))) S2 (fun j hj e => by have := hge j hj; omega), fun a ha => by have := hge a.block (by rw [ha]; rfl); omega⟩
         clear hW hW2 S1 S2 b12 fz ZZ hz0 bA bd K0 KS CC
         go_wp2_with fail
         go_meet
         exact ⟨w.heap.size, B', c', rfl, HB⟩)
      | (go_wp2_with fail
         go_meet
         refine ⟨w1.heap.size, B', c', by with_reducible rfl, ?_⟩
         exact Lib.hid ⟨heap_alloc_new w1 _, bB2.size, bB2.alloc bB2.size _, own_fr (own_base oB (fun j hj => (oB.lt j hj).1)) ((Fr.refl NoS w1).alloc _) (fun _ _ x => x), fun a ha => by have := (oB.lt a.block (by rw [ha]; rfl)).2; omega⟩)
  case rest =>
    clear K0 KS CC hAA
    obtain ⟨vb, B', c', rfl, HV⟩ := hcut
    obtain ⟨L, hL⟩ : ∃ L, l.length = L := ⟨_, rfl⟩
    have IC := HH.out.below HV.out.2.2.1
    have c0 := wrote_cell IC.cell 0 _ rfl
    have hrC := Lib.hid IC.rd
    rw [hL] at c0 hl
    replace hL := Lib.hid hL
    clear IC
    go_wp2_with fail
    go_loopw [38] (fun i wr => ∃ k : Nat, k ≤ L ∧ i = .int .i64 k ∧ Hid (∀ (j : Nat) (y : Nx), j < k → l[j]? = some y → ¬ (y.x.seq = q ∨ y.x.id = cid)) ∧ Hid (Below wc.heap.size wc wr)) (fun i _ => L - (intOf i).toNat)
    case atStart => exact ⟨0, by omega, rfl, Lib.hid (fun j y hj => absurd hj (by omega)), Lib.hid (Below.refl _ wc)⟩
    case round =>
      obtain ⟨k, hk, rfl, HT, HB2⟩ := hrel
      clear c0
      by_cases hkL : k < L
      · rename_i aa; clear aa
        have hkl : k < l.length := by rw [hL.out]; exact hkL
        have hki : (k : Int) < (L : Int) := by omega
        have hk0 : (0 : Int) ≤ (k : Int) := by omega
        have bWR : Below w.heap.size w wr := HV.out.2.2.1.trans (HB2.out.mono HV.out.2.2.1.size)
        obtain ⟨b, off, x0, x1, x2, x3, x4, x5, x6, x7, rfl, hcl, l0, l1, l2, l3, l4, l5, l6, l7, l8, l9, l10, l11⟩ := load_nx (hrC.out.fr (Fr.of_below HB2.out NoS) (fun _ _ _ x => x)) hkl
        have hbx := cells8 (HH.out.ids _ (List.getElem_mem hkl)) hcl
        have hid8 := HH.out.ids _ (List.getElem_mem hkl)
        have htk := (HH.out.tok _ (List.getElem_mem hkl)).1
        have HIT1 := HIT.out _ (List.getElem_mem hkl)
        clear hcl
        obtain ⟨y, hyy⟩ : ∃ y, l[k] = y := ⟨_, rfl⟩
        have hy' : Hid (l[k]? = some y) := Lib.hid (by rw [List.getElem?_eq_getElem hkl, hyy])
        rw [hyy] at l0 l9 l10 l11 hbx hid8 htk HIT1
        clear hyy hkl
        have EQ8 : ∀ w, (binOp .eql 55 (.agg #[.int .u8 x0, .int .u8 x1, .int .u8 x2, .int .u8 x3, .int .u8 x4, .int .u8 x5, .int .u8 x6, .int .u8 x7]) (.agg #[.int .u8 y0, .int .u8 y1, .int .u8 y2, .int .u8 y3, .int .u8 y4, .int .u8 y5, .int .u8 y6, .int .u8 y7])).run Try.prog w = .ok (.bool (decide (y.x.id = cid))) w := fun w => by
          have := eql8 y.x.id cid hid8 h8.out w
          rw [hbx, hy.out] at this
          exact this
        have VB := fun o => heap_fr HV.out.1 (((Fr.of_below HB2.out NoS)).alloc o) (fun x => x)
        have v1 := fun o => wrote_cell (VB o) 1 _ rfl
        have v2 := fun o => wrote_cell (VB o) 2 _ rfl
        have v3 := fun o => wrote_cell (VB o) 3 _ rfl
        have v4 := fun o => wrote_cell (VB o) 4 _ rfl
        have v5 := fun o => wrote_cell (VB o) 5 _ rfl
        have v6 := fun o => wrote_cell (VB o) 6 _ rfl
        have v7 := fun o => wrote_cell (VB o) 7 _ rfl
        have v8 := fun o => wrote_cell (VB o) 8 _ rfl
        obtain ⟨tl, htl⟩ : ∃ q, y.x.tok.length = q := ⟨_, rfl⟩
        have CE : Hid (∀ o, Calls Try.prog 28 #[.slice y.A tl y.c, .slice (some ⟨bB, oB, none⟩) 16 cb] (wr.alloc o) fun e w' => e = .returned (.bool (decide (y.x.tok = tok))) ∧ wr.alloc o = w') := Lib.hid (fun o => equal_any y.x.tok tok y.A (some ⟨bB, oB, none⟩) tl 16 y.c cb (wr.alloc o) htl h16.out ((htk.below bWR).alloc o) ((hB.out.below bWR).alloc o))
        have hS : ((y.x.seq : Int) == Q) = decide (y.x.seq = q) := by
          rw [← hQ.out]
          by_cases h : y.x.seq = q
          · rw [decide_eq_true h, h]; simp
          · rw [decide_eq_false h, beq_eq_false_iff_ne]; omega
        have bAl : Hid (∀ o, Below w.heap.size w (wr.alloc o) ∧ Below wc.heap.size wc (wr.alloc o)) := Lib.hid (fun o => ⟨bWR.alloc bWR.size o, HB2.out.alloc HB2.out.size o⟩)
        have HNO : Hid (decide (y.x.seq = q) = false → decide (y.x.id = cid) = false → ¬ (y.x.seq = q ∨ y.x.id = cid)) := Lib.hid (fun a b => by
          have a := of_decide_eq_false a; have b := of_decide_eq_false b; rintro (h | h)
          · exact a h
          · exact b h)
        have HYE : Hid (decide (y.x.seq = q) = true ∨ decide (y.x.id = cid) = true → E = (if decide (y.x.seq = q) = true ∧ decide (y.x.id = cid) = true ∧ decide (y.x.tok = tok) = true then 0 else 12) ∧ RL = nms l) := Lib.hid (fun a => by
          simp only [decide_eq_true_eq] at a ⊢; exact HIT1 a)
        obtain ⟨q0, hq0⟩ : ∃ q : Int, (y.x.seq : Int) = q := ⟨_, rfl⟩
        obtain ⟨q1, hq1⟩ : ∃ q, y.A = q := ⟨_, rfl⟩
        obtain ⟨q3, hq3⟩ : ∃ q, y.c = q := ⟨_, rfl⟩
        obtain ⟨q4, hq4⟩ : ∃ q, y.x.path = q := ⟨_, rfl⟩
        obtain ⟨q5, hq5⟩ : ∃ q, y.x.told = q := ⟨_, rfl⟩
        obtain ⟨b1, hb1⟩ : ∃ b, decide (y.x.seq = q) = b := ⟨_, rfl⟩
        obtain ⟨b2, hb2⟩ : ∃ b, decide (y.x.id = cid) = b := ⟨_, rfl⟩
        obtain ⟨b3, hb3⟩ : ∃ b, decide (y.x.tok = tok) = b := ⟨_, rfl⟩
        rw [hq0] at l0 hS
        rw [hq1, htl, hq3] at l9
        rw [hq1, hq3, hb3] at CE
        rw [hq4] at l10
        rw [hq5] at l11
        rw [hb1] at hS HNO HYE
        simp only [hb2] at EQ8
        rw [hb2] at HNO HYE
        rw [hb3] at HYE
        clear hq0 hq1 hq3 hq4 hq5 hb1 hb2 hb3 htl htk hid8 hbx HIT1 VB bWR
        cases b1
        · cases b2
          · have hno := Lib.hid (HNO.out rfl rfl)
            clear HYE HNO CE
            go_wp2_with fail
            go_roundw
            case rel => exact ⟨k + 1, by omega, by go_num, Lib.hid (fun j z hj hz => by
                rcases Nat.lt_or_ge j k with h | h
                · exact HT.out j z h hz
                · have : j = k := by omega
                  subst this
                  rw [hy'.out] at hz; injection hz with hz; rw [← hz]; exact hno.out), Lib.hid (bAl.out _).2⟩
            case measure => simp [intOf]; omega
          · obtain ⟨e1, e2⟩ := HYE.out (.inr rfl)
            rw [if_neg (by simp)] at e1
            subst e1
            replace e2 := Lib.hid e2
            clear HYE HNO CE
            go_wp2_with fail
            go_ret
            exact ⟨rfl, FIN.out _ (bAl.out _).1 e2.out⟩
        · cases b2
          · obtain ⟨e1, e2⟩ := HYE.out (.inl rfl)
            rw [if_neg (by simp)] at e1
            subst e1
            replace e2 := Lib.hid e2
            clear HYE HNO CE
            go_wp2_with fail
            go_ret
            exact ⟨rfl, FIN.out _ (bAl.out _).1 e2.out⟩
          · obtain ⟨e1, e2⟩ := HYE.out (.inl rfl)
            replace e2 := Lib.hid e2
            clear HYE HNO
            cases b3
            · rw [if_neg (by simp)] at e1
              subst e1
              go_wp2_with fail
              refine (CE.out _).mono ?_
              rintro e w2 ⟨rfl, rfl⟩
              clear CE
              go_wp2_with fail
              go_ret
              exact ⟨rfl, FIN.out _ (bAl.out _).1 e2.out⟩
            · rw [if_pos ⟨rfl, rfl, rfl⟩] at e1
              subst e1
              go_wp2_with fail
              refine (CE.out _).mono ?_
              rintro e w2 ⟨rfl, rfl⟩
              clear CE
              go_wp2_with fail
              go_ret
              exact ⟨rfl, FIN.out _ (bAl.out _).1 e2.out⟩
      · obtain rfl : k = L := by omega
        have hall : ∀ y ∈ l, ¬ (y.x.seq = q ∨ y.x.id = cid) := fun y hy => by
          obtain ⟨j, hj, rfl⟩ := List.getElem_of_mem hy
          exact HT.out j _ (by rw [← hL.out]; exact hj) (List.getElem?_eq_getElem hj)
        obtain ⟨m1, m2, m3⟩ := MISS.out hall
        have bWR : Below w.heap.size w wr := HV.out.2.2.1.trans (HB2.out.mono HV.out.2.2.1.size)
        have CF := Lib.hid (cfree_any (HH.out.below bWR))
        obtain ⟨F, hF⟩ : ∃ F, cfree (nms l) = F := ⟨_, rfl⟩
        rw [hF] at m1 m2 m3
        have CF : Hid (Calls Try.prog 12 #[.pointer (some ⟨p, 0, none⟩)] wr fun e w' => e = .returned (.int .i64 F) ∧ Below wr.heap.size wr w') := Lib.hid (by rw [← hF]; exact CF.out)
        have hFb : F ≤ 100 := by
          rw [← hF]; unfold cfree
          refine Nat.le_trans List.countP_le_length ?_
          rw [List.length_map, hL.out]; omega
        replace bWR := Lib.hid bWR
        replace m2 := Lib.hid m2
        replace m3 := Lib.hid m3
        clear hF HIT MISS HT hall
        by_cases hF8 : F = 8
        · have m5 := Lib.hid (m2.out hF8)
          subst hF8
          rw [if_pos rfl] at m1
          subst m1
          clear m2 m3
          go_wp2_with fail
          refine CF.out.mono ?_
          rintro e w2 ⟨rfl, bf⟩
          replace bf := Lib.hid bf
          clear CF
          go_wp2_with fail
          go_ret
          exact ⟨rfl, FIN.out _ (bWR.out.trans (bf.out.mono bWR.out.size)) m5.out⟩
        · rw [if_neg hF8] at m1
          subst m1
          have d8 : ((F : Int) == 8) = false := beq_eq_false_iff_ne.2 (by omega)
          have m4 := m3.out hF8 B' c'
          clear hF8 m2 m3
          go_wp2_with fail
          refine CF.out.mono ?_
          rintro e w2 ⟨rfl, bf⟩
          have bW2 : Below w.heap.size w w2 := bWR.out.trans (bf.mono bWR.out.size)
          have bC2 : Below wc.heap.size wc w2 := HB2.out.trans (bf.mono HB2.out.size)
          have c2 := wrote_cell (HH.out.below bW2).cell 0 _ rfl
          rw [hL.out] at c2
          have CB := bsf_any l A k c q w2 hL.out (HH.out.below bW2).rd (by omega) (rise_le rise.out)
          obtain ⟨pos, hpos⟩ : ∃ pos, cpos l q = pos := ⟨_, rfl⟩
          have hposl : pos ≤ l.length := by rw [← hpos]; exact (List.takeWhile_sublist _).length_le
          rw [hpos, hQ.out] at CB
          rw [hpos] at m4
          replace CB := Lib.hid CB
          replace bW2 := Lib.hid bW2
          replace bC2 := Lib.hid bC2
          clear bf CF hpos bWR HB2
          go_wp2_with fail
          refine CB.out.mono ?_
          rintro e w3 ⟨rfl, b3⟩
          have bW3 : Below w.heap.size w w3 := bW2.out.trans (b3.mono bW2.out.size)
          have bC3 : Below wc.heap.size wc w3 := bC2.out.trans (b3.mono bC2.out.size)
          have c3 := wrote_cell (HH.out.below bW3).cell 0 _ rfl
          rw [hL.out] at c3
          have c3a : ∀ o, (w3.alloc o).cell? ⟨p, 0, none⟩ = some (.slice A k c) := fun o => Lib.cell?_alloc_some o c3
          have V3 := heap_fr HV.out.1 (Fr.of_below bC3 NoS) (fun x => x)
          have v0 := wrote_cell V3 0 _ rfl
          have v1 := wrote_cell V3 1 _ rfl
          have v2 := wrote_cell V3 2 _ rfl
          have v3 := wrote_cell V3 3 _ rfl
          have v4 := wrote_cell V3 4 _ rfl
          have v5 := wrote_cell V3 5 _ rfl
          have v6 := wrote_cell V3 6 _ rfl
          have v7 := wrote_cell V3 7 _ rfl
          have v8 := wrote_cell V3 8 _ rfl
          have v9 := wrote_cell V3 9 _ rfl
          have v10 := wrote_cell V3 10 _ rfl
          have v11 := wrote_cell V3 11 _ rfl
          have oB3 : w3.ownsRow w.heap.size 5 1 (.slice B' 16 c') 16 (bv tok) := own_fr HV.out.2.2.2.1 (Fr.of_below bC3 NoS) (fun _ _ x => x)
          have hcap := RetS.cap oB3
          have CN : Hid (Calls Try.prog 31 #[.slice A k c, .int .i64 pos, .slice (some ⟨w3.heap.size, 0, none⟩) 1 1] (w3.drew.alloc (.cells #[.int .u64 Q, .int .u8 y0, .int .u8 y1, .int .u8 y2, .int .u8 y3, .int .u8 y4, .int .u8 y5, .int .u8 y6, .int .u8 y7, .slice B' 16 c', .int .i64 (-1), .bool false] 57)) fun e w' => ∃ A' c', e = .returned (.slice A' (k + 1) c') ∧ w'.cell? ⟨p, 0, none⟩ = some (.slice A k c) ∧ w'.frozen? ⟨p, 0, none⟩ = false ∧
              Hid (∃ A5 c5 l5, IsCd (w'.setCell ⟨p, 0, none⟩ (.slice A' (k + 1) c')) p A5 c5 l5 use ∧ nms l5 = RL ∧ Fr (OnB p A) w (w'.setCell ⟨p, 0, none⟩ (.slice A' (k + 1) c')) ∧ ∀ k, OnC p A5 l5 k → OnC p A l k ∨ w.heap.size ≤ k)) := Lib.hid (by
            have := cins_any HH.out (by rw [hL.out]; omega) w3.drew (bW3.trans ((Still.drew w3).below.mono bW3.size)) ⟨⟨q, cid, tok, -1, false⟩, B', c'⟩ pos hposl (Rd.of_own oB3) (by show tok.length ≤ c' ∧ _; rw [h16.out]; exact hcap) h8.out (fun a ha => oB3.lt a.block (by rw [show B' = some a from ha]; rfl)) k hL.out 57 rfl
            rw [new12 h8.out h16.out hy.out, hQ.out] at this
            refine this.mono ?_
            rintro e w' ⟨A2, c2, rfl, d1, d2, d3, d4, d5⟩
            exact ⟨A2, c2, rfl, d1, d2, Lib.hid ⟨A2, c2, _, d3, m4, d4, d5⟩⟩)
          clear CB b3 bW2 bC2 c2 bW3 bC3 V3 oB3 hcap hposl m4
          go_wp2_with fail
          go_cut [] from 83 to 93 (fun wx => Hid (∃ A' c' l', IsCd wx p A' c' l' use ∧ nms l' = RL ∧ Fr (OnB p A) w wx ∧ ∀ k, OnC p A' l' k → OnC p A l k ∨ w.heap.size ≤ k))
          case first =>
            have c3b : ∀ o, (w3.alloc o).drew.cell? ⟨p, 0, none⟩ = some (.slice A k c) := fun o => Lib.cell?_alloc_some o c3
            go_region_law (first
              | (go_simp; go_at_call 31; refine CN.out.mono ?_; rintro e w4 ⟨A4, c4, rfl, hcp, hfp, P4⟩))
            all_goals (go_wp2_with fail; go_meet; exact P4)
          case rest =>
            clear CN c3 c3a v0 v1 v2 v3 v4 v5 v6 v7 v8 v9 v10 v11
            go_wp2_with fail
            go_ret
            exact ⟨rfl, hcut.out⟩
end
end Go.Proofs.Ytgmanhbfdjlhbaa
