/- The document's Put: the state between the operations of one statement; what the two loops leave. -/
import Derived.Test.YtlaomllgjiochaaIrA
namespace Go.Proofs.Ytlaomllgjiochaa
open Go.RowKit

/-- Between two operations: the struct as it was, the two rows perhaps grown. -/
structure Mir (wr w : World) (p : Nat) (c0 c1 c2 vd vc VD VC : Value) (n1 n2 : Nat) (xs ys : List Value) : Prop where
  heap : w.heap[p]? = some (.cells #[c0, vd, vc, c1, c2] 52 (0, 0))
  data : w.ownsRow (p + 1) 5 1 VD n1 xs
  came : w.ownsRow (p + 1) 4 1 VC n2 ys
  fr : Fr (fun k => vd.ownBlock = some k ∨ vc.ownBlock = some k) wr w
  newD : ∀ k, VD.ownBlock = some k → vd.ownBlock = some k ∨ wr.heap.size ≤ k
  newC : ∀ k, VC.ownBlock = some k → vc.ownBlock = some k ∨ wr.heap.size ≤ k

section
variable {wr w w' : World} {p : Nat} {c0 c1 c2 vd vc VD VC : Value} {n1 n2 : Nat} {xs ys : List Value}
theorem Mir.two (h : Mir wr w p c0 c1 c2 vd vc VD VC n1 n2 xs ys) {x y : Value} (h4 : vd = x) (h5 : vc = y) : w.cell? ⟨p, 1, none⟩ = some x ∧ w.cell? ⟨p, 2, none⟩ = some y :=
  ⟨wrote_cell h.heap 1 _ (by rw [h4]; rfl), wrote_cell h.heap 2 _ (by rw [h5]; rfl)⟩
theorem Mir.base (h : Mir wr w p c0 c1 c2 vd vc VD VC n1 n2 xs ys) : p + 1 ≤ w.heap.size := heap_lt h.heap
theorem Mir.allocd (h : Mir wr w p c0 c1 c2 vd vc VD VC n1 n2 xs ys) (o : Obj) : Mir wr (w.alloc o) p c0 c1 c2 vd vc VD VC n1 n2 xs ys :=
  ⟨heap_fr h.heap ((Fr.refl NoS w).alloc o) (fun x => x), h.data.alloc o, h.came.alloc o, h.fr.alloc o, h.newD, h.newC⟩
theorem Mir.rd (_ : Mir wr w p c0 c1 c2 vd vc VD VC n1 n2 xs ys) (u : Value) (e : TypeId) : Rd (w.alloc (.cells #[u] e)) (some ⟨w.heap.size, 0, none⟩) [u] := Rd.fresh w [u] e
theorem Rd.farI {b : World} {u : Value} (h : Mir wr b p c0 c1 c2 vd vc VD VC n1 n2 xs ys) (r : Rd w (some ⟨b.heap.size, 0, none⟩) [u]) (hg : w.grownBy w' VC.ownBlock) : Rd w' (some ⟨b.heap.size, 0, none⟩) [u] :=
  r.grown hg (fun _ a ha e => by injection ha with ha; subst ha; have := (h.came.lt _ e).2; simp at this)
theorem Rd.farB {b : World} {u : Value} (h : Mir wr b p c0 c1 c2 vd vc VD VC n1 n2 xs ys) (r : Rd w (some ⟨b.heap.size, 0, none⟩) [u]) (hg : w.grownBy w' VD.ownBlock) : Rd w' (some ⟨b.heap.size, 0, none⟩) [u] :=
  r.grown hg (fun _ a ha e => by injection ha with ha; subst ha; have := (h.data.lt _ e).2; simp at this)
theorem Mir.grownC (h : Mir wr w p c0 c1 c2 vd vc VD VC n1 n2 xs ys) {V : Value} {m : Nat} {zs : List Value} (ho : w'.ownsRow (p + 1) 4 1 V m zs) (hg : w.grownBy w' VC.ownBlock) (hb : V.ownBlock = VC.ownBlock ∨ V.ownBlock = some w.heap.size) :
    Mir wr w' p c0 c1 c2 vd vc VD V n1 m xs zs := by
  have hp : some p ≠ VC.ownBlock := fun e => by have := h.came.lt p e.symm; omega
  refine ⟨by rw [hg.block p (heap_lt h.heap) hp]; exact h.heap, h.data.kept hg (own_types h.data h.came (by decide)), ho, h.fr.grown hg (fun k hk hlt => ?_), h.newD, fun k hk => ?_⟩
  · rcases h.newC k hk with h1 | h1
    · exact .inr h1
    · omega
  · rcases hb with hb | hb
    · exact h.newC k (hb ▸ hk)
    · rw [hb] at hk; injection hk with hk; exact .inr (by have := h.fr.size; omega)
theorem Mir.grownD (h : Mir wr w p c0 c1 c2 vd vc VD VC n1 n2 xs ys) {V : Value} {m : Nat} {zs : List Value} (ho : w'.ownsRow (p + 1) 5 1 V m zs) (hg : w.grownBy w' VD.ownBlock) (hb : V.ownBlock = VD.ownBlock ∨ V.ownBlock = some w.heap.size) :
    Mir wr w' p c0 c1 c2 vd vc V VC m n2 zs ys := by
  have hp : some p ≠ VD.ownBlock := fun e => by have := h.data.lt p e.symm; omega
  refine ⟨by rw [hg.block p (heap_lt h.heap) hp]; exact h.heap, ho, h.came.kept hg (own_types h.came h.data (by decide)), h.fr.grown hg (fun k hk hlt => ?_), fun k hk => ?_, h.newC⟩
  · rcases h.newD k hk with h1 | h1
    · exact .inl h1
    · omega
  · rcases hb with hb | hb
    · exact h.newD k (hb ▸ hk)
    · rw [hb] at hk; injection hk with hk; exact .inr (by have := h.fr.size; omega)
end
section
variable {w wr w1 : World} {p : Nat} {vD vC : Value} {s : Inc}
/-- Behind one round of the padding. -/
theorem rpad_round {s : Inc} {j n cD cC cD1 cC1 : Nat} {AD AC AD1 AC1 : Option Addr} {gd gC : List Value}
    (M : Mir wr w1 p (.int .i64 s.most) (.int .i64 s.en) (.int .i64 s.rd) (.slice AD n cD) (.slice AC n cC) (.slice AD1 (n + 1) cD1) (.slice AC1 (n + 1) cC1) (n + 1) (n + 1) (gd ++ [.int .u8 0]) (gC ++ [.bool false]))
    (hI : Hid (IsRi wr p (.slice AD (padded s j).got.length cD) (.slice AC (padded s j).got.length cC) (padded s j))) (hF : Hid (Fr (IncS p vD vC) w wr))
    (hN : Hid (∀ k, IncS p (.slice AD (padded s j).got.length cD) (.slice AC (padded s j).got.length cC) k → IncS p vD vC k ∨ w.heap.size ≤ k))
    (hd : Hid (bv (gb (padded s j).got) = gd)) (hc : Hid (bo (gc (padded s j).got) = gC)) (hn : Hid (n = s.got.length + j)) (hm : (n : Int) + 1 ≤ s.most) (hs : s.Ok) :
    ∃ vD' vC', IsRi ((w1.setCell ⟨p, 1, none⟩ (.slice AD1 (n + 1) cD1)).setCell ⟨p, 2, none⟩ (.slice AC1 (n + 1) cC1)) p vD' vC' (padded s (j + 1)) ∧
      Fr (IncS p vD vC) w ((w1.setCell ⟨p, 1, none⟩ (.slice AD1 (n + 1) cD1)).setCell ⟨p, 2, none⟩ (.slice AC1 (n + 1) cC1)) ∧
      ∀ k, IncS p vD' vC' k → IncS p vD vC k ∨ w.heap.size ≤ k := by
  have hI := hI.out
  have hF := hF.out
  have hN := hN.out
  have hd := hd.out
  have hc := hc.out
  have hn := hn.out
  have hl : (padded s j).got.length = n := by rw [padded_len]; exact hn.symm
  rw [hl] at hI hN
  have hp := heap_lt M.heap
  have e1 := heap_setCell_same w1 p 1 _ _ (.slice AD1 (n + 1) cD1) M.heap
  have e2 := heap_setCell_same _ p 2 _ _ (.slice AC1 (n + 1) cC1) e1
  have f1 : Fr (· = p) w1 ((w1.setCell ⟨p, 1, none⟩ (.slice AD1 (n + 1) cD1)).setCell ⟨p, 2, none⟩ (.slice AC1 (n + 1) cC1)) :=
    ((Fr.refl (· = p) w1).setCell (p := ⟨p, 1, none⟩) (fun _ => rfl) _).setCell (p := ⟨p, 2, none⟩) (fun _ => rfl) _
  have fS : Fr (IncS p vD vC) w w1 := hF.trans' M.fr (fun k hk hlt => by
    have : IncS p (.slice AD n cD) (.slice AC n cC) k := .inr hk
    rcases hN k this with h | h
    · exact h
    · omega)
  have fS2 := fS.trans' f1 (fun k hk hlt => by subst hk; exact .inl rfl)
  refine ⟨.slice AD1 (n + 1) cD1, .slice AC1 (n + 1) cC1, ⟨e2, ?_, ?_, ?_, ?_⟩, fS2, ?_⟩
  · have := own_fr M.data f1 (fun k hk e => by have := M.data.lt k hk; omega)
    have e : bv (gb (padded s (j + 1)).got) = gd ++ [.int .u8 0] := by rw [padded_succ, ← hd]; simp [gb, bv]
    rw [e, padded_len, ← Nat.add_assoc, ← hn]; exact this
  · have := own_fr M.came f1 (fun k hk e => by have := M.came.lt k hk; omega)
    have e : bo (gc (padded s (j + 1)).got) = gC ++ [.bool false] := by rw [padded_succ, ← hc]; simp [gc, bo]
    rw [e, padded_len, ← Nat.add_assoc, ← hn]; exact this
  · intro k hk
    rcases own_types M.came M.data (by decide) with h | h
    · rw [h]; simp
    · intro e; exact h (e.trans hk.symm)
  · exact padded_ok s (j + 1) hs (by omega)
  · intro k hk
    rcases hk with rfl | hk | hk
    · exact .inl (.inl rfl)
    · rcases M.newD k hk with h | h
      · exact hN k (.inr (.inl h))
      · exact .inr (by have := hF.size; omega)
    · rcases M.newC k hk with h | h
      · exact hN k (.inr (.inr h))
      · exact .inr (by have := hF.size; omega)
/-- Behind one round of the filling. -/
theorem rfill_round {s : Inc} {gD gC cD cC n off k : Nat} {l : List UInt8} {b : UInt8}
    (hI : IsRi wr p (.slice (some ⟨gD, 0, none⟩) n cD) (.slice (some ⟨gC, 0, none⟩) n cC) (filled s off l k)) (hn : (filled s off l k).got.length = n) (hk : k < l.length) (hb : l[k]? = some b) (hlt : off + k < n) :
    IsRi ((wr.setCell ⟨gD, off + k, none⟩ (.int .u8 b.toNat)).setCell ⟨gC, off + k, none⟩ (.bool true)) p (.slice (some ⟨gD, 0, none⟩) n cD) (.slice (some ⟨gC, 0, none⟩) n cC) (filled s off l (k + 1)) := by
  have hD := hI.data
  have hC := hI.came
  rw [hn] at hD hC
  obtain ⟨sD, grD⟩ := hD.stored (off + k) (.int .u8 b.toNat)
  have hgne : gC ≠ gD := by
    rcases own_types hC hD (by decide) with h | h
    · simp [Value.ownBlock] at h
    · intro e; exact h (by simp [Value.ownBlock, e])
  have hC1 := hC.kept grD (.inr (by simp [Value.ownBlock]; omega))
  obtain ⟨sC, grC⟩ := hC1.stored (off + k) (.bool true)
  have hD1 := sD.kept grC (.inr (by simp [Value.ownBlock]; omega))
  have hpD : p ≠ gD := by have := (hD.lt gD rfl).1; omega
  have hpC : p ≠ gC := by have := (hC.lt gC rfl).1; omega
  have hlen : (filled s off l (k + 1)).got.length = n := by rw [← hn]; simp [filled]
  have hg : (filled s off l (k + 1)).got = (filled s off l k).got.set (off + k) (some b) := by simp only [filled, fills, hb]
  refine ⟨?_, ?_, ?_, hI.apart, filled_ok' s off l k hI.ok⟩
  · rw [heap_setCell_other _ _ _ _ (by simpa using hpC), heap_setCell_other _ _ _ _ (by simpa using hpD)]
    exact hI.cell
  · rw [hlen, hg, gb, List.map_set, bv, List.map_set]; exact hD1
  · rw [hlen, hg, gc, List.map_set, bo, List.map_set]; exact sC
theorem rfill_fr {S : Nat → Prop} {gD gC i : Nat} {x y : Value} (h : Fr S w wr) (hD : gD < w.heap.size → S gD) (hC : gC < w.heap.size → S gC) :
    Fr S w ((wr.setCell ⟨gD, i, none⟩ y).setCell ⟨gC, i, none⟩ x) := (h.setCell (p := ⟨gD, i, none⟩) hD y).setCell (p := ⟨gC, i, none⟩) hC x
end
def rlen (w : World) (p : Nat) : Nat := match w.cell? ⟨p, 2, none⟩ with | some (.slice _ n _) => n | _ => 0
theorem IsRi.rlen {w : World} {p : Nat} {vD vC : Value} {s : Inc} (h : IsRi w p vD vC s) : rlen w p = s.got.length := by
  obtain ⟨a1, a2, e, _⟩ := own_shape _ h.came
  unfold Proofs.Ytlaomllgjiochaa.rlen
  rw [wrote_cell h.cell 2 _ rfl, e]; rfl
/-- What Put leaves. -/
def RPutPost (p : Nat) (vD vC : Value) (s : Inc) (w : World) (r : Ending) (w2 : World) : Prop :=
  ∃ vD2 vC2, r = .returned (.int .i64 0) ∧ IsRi w2 p vD2 vC2 s ∧ Fr (IncS p vD vC) w w2 ∧ ∀ k, IncS p vD2 vC2 k → IncS p vD vC k ∨ w.heap.size ≤ k
theorem rput_end {w wr w2 : World} {p : Nat} {vD vC VD VC : Value} {s : Inc} {off j : Nat} {l : List UInt8} {e : Bool} (hs : s.Ok) (hb : (off : Int) + l.length ≤ s.most)
    (hJ : IsRi wr p VD VC (filled (padded s j) off l l.length)) (hG : Fr (IncS p vD vC) w wr) (hN : ∀ k, IncS p VD VC k → IncS p vD vC k ∨ w.heap.size ≤ k)
    (hj : j = off + l.length - s.got.length) (hl : 0 < l.length) (hf : Fr (· = p) wr w2) {y : Int} (hy : y = (iput s off l e).en)
    (hc : w2.heap[p]? = some (.cells #[.int .i64 s.most, VD, VC, .int .i64 y, .int .i64 s.rd] 52 (0, 0))) : RPutPost p vD vC (iput s off l e) w (.returned (.int .i64 0)) w2 := by
  have hg : (iput s off l e).got = (filled (padded s j) off l l.length).got := by
    simp only [iput, filled, padded]; rw [if_neg (by intro h; simp [h] at hl), hj]
  refine ⟨VD, VC, rfl, hJ.turn hf hg ?_ (iput_ok s off l e hs hb), hG.trans' hf (fun k hk _ => by subst hk; exact .inl rfl), hN⟩
  rw [hc, hy]; rfl
end Go.Proofs.Ytlaomllgjiochaa
