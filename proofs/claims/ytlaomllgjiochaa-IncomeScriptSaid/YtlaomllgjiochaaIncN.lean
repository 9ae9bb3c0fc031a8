/- income.Put: what the two loops leave, in plain words: places padded, places filled. -/
import Derived.Test.YtlaomllgjiochaaIncM
namespace Go.Proofs.Ytlaomllgjiochaa
open Go.RowKit

/-- So many places more, nothing come yet. -/
def padded (s : Inc) (j : Nat) : Inc := { s with got := s.got ++ List.replicate j none }
@[simp] theorem padded_len (s : Inc) (j : Nat) : (padded s j).got.length = s.got.length + j := by simp [padded]
theorem padded_succ (s : Inc) (j : Nat) : (padded s (j + 1)).got = (padded s j).got ++ [none] := by
  simp [padded, List.replicate_succ', List.append_assoc]
/-- The first k bytes of l, from place off on. -/
def fills (g : List (Option UInt8)) (off : Nat) (l : List UInt8) : Nat → List (Option UInt8)
  | 0 => g
  | k + 1 => (fills g off l k).set (off + k) l[k]?
@[simp] theorem fills_len (g : List (Option UInt8)) (off : Nat) (l : List UInt8) (k : Nat) : (fills g off l k).length = g.length := by
  induction k with
  | zero => rfl
  | succ k ih => simp [fills, ih]
theorem fills_get (g : List (Option UInt8)) (off : Nat) (l : List UInt8) (k i : Nat) (hi : i < g.length) :
    (fills g off l k)[i]? = if off ≤ i ∧ i < off + k then some l[i - off]? else g[i]? := by
  induction k with
  | zero => simp only [fills]; rw [if_neg (by omega)]
  | succ k ih =>
    simp only [fills, List.getElem?_set, fills_len]
    by_cases h : off + k = i
    · subst h
      rw [if_pos rfl, if_pos hi, if_pos (by omega), Nat.add_sub_cancel_left]
    · rw [if_neg h, ih]
      by_cases h2 : off ≤ i ∧ i < off + k
      · rw [if_pos h2, if_pos (by omega)]
      · rw [if_neg h2, if_neg (by omega)]
def filled (s : Inc) (off : Nat) (l : List UInt8) (k : Nat) : Inc := { s with got := fills s.got off l k }

theorem padded_ok (s : Inc) (j : Nat) (h : s.Ok) (hj : (s.got.length : Int) + j ≤ s.most) : (padded s j).Ok :=
  ⟨h.most0, h.most1, h.en0, h.en1, by have := h.rd; simp only [padded_len]; exact Nat.le_trans this (by omega), h.hi0, h.hi1, by simp only [padded_len]; exact_mod_cast hj⟩
theorem filled_ok (s : Inc) (off : Nat) (l : List UInt8) (k : Nat) (h : s.Ok) : (filled s off l k).Ok :=
  ⟨h.most0, h.most1, h.en0, h.en1, by have := h.rd; simpa [filled] using this, h.hi0, h.hi1, by have := h.len; simpa [filled] using this⟩
theorem filled_ok' (s : Inc) (off : Nat) (l : List UInt8) (k : Nat) (h : (filled s off l k).Ok) : (filled s off l (k + 1)).Ok :=
  ⟨h.most0, h.most1, h.en0, h.en1, by have := h.rd; simpa [filled] using this, h.hi0, h.hi1, by have := h.len; simpa [filled] using this⟩

section
variable {w wr w1 : World} {p : Nat} {vD vC : Value} {s : Inc}
/-- Behind one round of the padding. -/
theorem pad_round {s : Inc} {j n cD cC cD1 cC1 : Nat} {AD AC AD1 AC1 : Option Addr} {gd gC : List Value}
    (M : Mid wr w1 p (.int .i64 s.most) (.int .i64 s.en) (.int .i64 s.rd) (.int .i64 s.hi) (.slice AD n cD) (.slice AC n cC) (.slice AD1 (n + 1) cD1) (.slice AC1 (n + 1) cC1) (n + 1) (n + 1) (gd ++ [.int .u8 0]) (gC ++ [.bool false]))
    (hI : Hid (IsInc wr p (.slice AD (padded s j).got.length cD) (.slice AC (padded s j).got.length cC) (padded s j))) (hF : Hid (Fr (IncS p vD vC) w wr))
    (hN : Hid (∀ k, IncS p (.slice AD (padded s j).got.length cD) (.slice AC (padded s j).got.length cC) k → IncS p vD vC k ∨ w.heap.size ≤ k))
    (hd : Hid (bv (gb (padded s j).got) = gd)) (hc : Hid (bo (gc (padded s j).got) = gC)) (hn : Hid (n = s.got.length + j)) (hm : (n : Int) + 1 ≤ s.most) (hs : s.Ok) :
    ∃ vD' vC', IsInc ((w1.setCell ⟨p, 5, none⟩ (.slice AC1 (n + 1) cC1)).setCell ⟨p, 4, none⟩ (.slice AD1 (n + 1) cD1)) p vD' vC' (padded s (j + 1)) ∧
      Fr (IncS p vD vC) w ((w1.setCell ⟨p, 5, none⟩ (.slice AC1 (n + 1) cC1)).setCell ⟨p, 4, none⟩ (.slice AD1 (n + 1) cD1)) ∧
      ∀ k, IncS p vD' vC' k → IncS p vD vC k ∨ w.heap.size ≤ k := by
  have hI := hI.out
  have hF := hF.out
  have hN := hN.out
  have hd := hd.out
  have hc := hc.out
  have hn := hn.out
  have hl : (padded s j).got.length = n := by rw [padded_len]; exact hn.symm
  rw [hl] at hI hN
  have hp := heap_lt M.heap
  have e1 := heap_setCell_same w1 p 5 _ _ (.slice AC1 (n + 1) cC1) M.heap
  have e2 := heap_setCell_same _ p 4 _ _ (.slice AD1 (n + 1) cD1) e1
  have f1 : Fr (· = p) w1 ((w1.setCell ⟨p, 5, none⟩ (.slice AC1 (n + 1) cC1)).setCell ⟨p, 4, none⟩ (.slice AD1 (n + 1) cD1)) :=
    ((Fr.refl (· = p) w1).setCell (p := ⟨p, 5, none⟩) (fun _ => rfl) _).setCell (p := ⟨p, 4, none⟩) (fun _ => rfl) _
  have fS : Fr (IncS p vD vC) w w1 := hF.trans' M.fr (fun k hk hlt => by
    have : IncS p (.slice AD n cD) (.slice AC n cC) k := .inr hk
    rcases hN k this with h | h
    · exact h
    · omega)
  have fS2 := fS.trans' f1 (fun k hk hlt => by subst hk; exact .inl rfl)
  refine ⟨.slice AD1 (n + 1) cD1, .slice AC1 (n + 1) cC1, ⟨e2, ?_, ?_, ?_, ?_⟩, fS2, ?_⟩
  · have := own_fr M.data f1 (fun k hk e => by have := M.data.lt k hk; omega)
    have e : bv (gb (padded s (j + 1)).got) = gd ++ [.int .u8 0] := by rw [padded_succ, ← hd]; simp [gb, bv]
    rw [e, padded_len, ← Nat.add_assoc, ← hn]; exact this
  · have := own_fr M.came f1 (fun k hk e => by have := M.came.lt k hk; omega)
    have e : bo (gc (padded s (j + 1)).got) = gC ++ [.bool false] := by rw [padded_succ, ← hc]; simp [gc, bo]
    rw [e, padded_len, ← Nat.add_assoc, ← hn]; exact this
  · intro k hk
    rcases own_types M.came M.data (by decide) with h | h
    · rw [h]; simp
    · intro e; exact h (e.trans hk.symm)
  · exact padded_ok s (j + 1) hs (by omega)
  · intro k hk
    rcases hk with rfl | hk | hk
    · exact .inl (.inl rfl)
    · rcases M.newD k hk with h | h
      · exact hN k (.inr (.inl h))
      · exact .inr (by have := hF.size; omega)
    · rcases M.newC k hk with h | h
      · exact hN k (.inr (.inr h))
      · exact .inr (by have := hF.size; omega)
/-- Behind one round of the filling. -/
theorem fill_round {s : Inc} {gD gC cD cC n off k : Nat} {l : List UInt8} {b : UInt8}
    (hI : IsInc wr p (.slice (some ⟨gD, 0, none⟩) n cD) (.slice (some ⟨gC, 0, none⟩) n cC) (filled s off l k)) (hn : (filled s off l k).got.length = n) (hk : k < l.length) (hb : l[k]? = some b) (hlt : off + k < n) :
    IsInc ((wr.setCell ⟨gC, off + k, none⟩ (.bool true)).setCell ⟨gD, off + k, none⟩ (.int .u8 b.toNat)) p (.slice (some ⟨gD, 0, none⟩) n cD) (.slice (some ⟨gC, 0, none⟩) n cC) (filled s off l (k + 1)) := by
  have hD := hI.data
  have hC := hI.came
  rw [hn] at hD hC
  obtain ⟨sC, grC⟩ := hC.stored (off + k) (.bool true)
  have hne : (Value.slice (some ⟨gD, 0, none⟩) n cD).ownBlock = none ∨ (Value.slice (some ⟨gD, 0, none⟩) n cD).ownBlock ≠ some gC := own_types hD hC (by decide)
  have hgne : gD ≠ gC := by
    rcases hne with h | h
    · simp [Value.ownBlock] at h
    · intro e; exact h (by simp [Value.ownBlock, e])
  have hD1 := hD.kept grC hne
  obtain ⟨sD, grD⟩ := hD1.stored (off + k) (.int .u8 b.toNat)
  have hC1 := sC.kept grD (.inr (by simp [Value.ownBlock]; omega))
  have hpD : p ≠ gD := by have := (hD.lt gD rfl).1; omega
  have hpC : p ≠ gC := by have := (hC.lt gC rfl).1; omega
  have hlen : (filled s off l (k + 1)).got.length = n := by rw [← hn]; simp [filled]
  have hg : (filled s off l (k + 1)).got = (filled s off l k).got.set (off + k) (some b) := by simp only [filled, fills, hb]
  refine ⟨?_, ?_, ?_, hI.apart, filled_ok' s off l k hI.ok⟩
  · rw [heap_setCell_other _ _ _ _ (by simpa using hpD), heap_setCell_other _ _ _ _ (by simpa using hpC)]
    exact hI.cell
  · rw [hlen, hg, gb, List.map_set, bv, List.map_set]; exact sD
  · rw [hlen, hg, gc, List.map_set, bo, List.map_set]; exact hC1
theorem fill_fr {S : Nat → Prop} {gD gC i : Nat} {x y : Value} (h : Fr S w wr) (hD : gD < w.heap.size → S gD) (hC : gC < w.heap.size → S gC) :
    Fr S w ((wr.setCell ⟨gC, i, none⟩ x).setCell ⟨gD, i, none⟩ y) := (h.setCell (p := ⟨gC, i, none⟩) hC x).setCell (p := ⟨gD, i, none⟩) hD y
end
def clen (w : World) (p : Nat) : Nat := match w.cell? ⟨p, 5, none⟩ with | some (.slice _ n _) => n | _ => 0
theorem IsInc.clen {w : World} {p : Nat} {vD vC : Value} {s : Inc} (h : IsInc w p vD vC s) : clen w p = s.got.length := by
  obtain ⟨a1, a2, e, _⟩ := own_shape _ h.came
  unfold Proofs.Ytlaomllgjiochaa.clen
  rw [wrote_cell h.cell 5 _ rfl, e]; rfl
/-- Behind a piece. -/
def iput (s : Inc) (off : Nat) (l : List UInt8) (e : Bool) : Inc :=
  { most := s.most, en := if e then (off : Int) + l.length else s.en, rd := s.rd,
    hi := if e then (off : Int) + l.length else if l = [] then s.hi else max s.hi ((off : Int) + l.length),
    got := if l = [] then s.got else fills (s.got ++ List.replicate (off + l.length - s.got.length) none) off l l.length }
theorem iput_ok (s : Inc) (off : Nat) (l : List UInt8) (e : Bool) (h : s.Ok) (hb : (off : Int) + l.length ≤ s.most) : (iput s off l e).Ok := by
  have h1 := h.most0
  have h2 := h.most1
  have h3 := h.en0
  have h4 := h.en1
  have h5 := h.rd
  have h6 := h.hi0
  have h7 := h.hi1
  have h8 := h.len
  refine ⟨h1, h2, ?_, ?_, ?_, ?_, ?_, ?_⟩ <;> simp only [iput]
  · split <;> omega
  · split <;> omega
  · split
    · exact h5
    · simp; omega
  · split
    · omega
    · split <;> omega
  · split
    · omega
    · split <;> omega
  · split
    · exact h8
    · simp; omega
/-- What Put leaves. -/
def PutPost (p : Nat) (vD vC : Value) (s : Inc) (w : World) (r : Ending) (w2 : World) : Prop :=
  ∃ vD2 vC2, r = .returned (.int .i64 0) ∧ IsInc w2 p vD2 vC2 s ∧ Fr (IncS p vD vC) w w2 ∧ ∀ k, IncS p vD2 vC2 k → IncS p vD vC k ∨ w.heap.size ≤ k
theorem put_end {w wr w2 : World} {p : Nat} {vD vC VD VC : Value} {s : Inc} {off j : Nat} {l : List UInt8} {e : Bool} (hs : s.Ok) (hb : (off : Int) + l.length ≤ s.most)
    (hJ : IsInc wr p VD VC (filled (padded s j) off l l.length)) (hG : Fr (IncS p vD vC) w wr) (hN : ∀ k, IncS p VD VC k → IncS p vD vC k ∨ w.heap.size ≤ k)
    (hj : j = off + l.length - s.got.length) (hl : 0 < l.length) (hf : Fr (· = p) wr w2) {y z : Int} (hy : y = (iput s off l e).en) (hz : z = (iput s off l e).hi)
    (hc : w2.heap[p]? = some (.cells #[.int .i64 s.most, .int .i64 y, .int .i64 s.rd, .int .i64 z, VD, VC] 48 (0, 0))) : PutPost p vD vC (iput s off l e) w (.returned (.int .i64 0)) w2 := by
  have hg : (iput s off l e).got = (filled (padded s j) off l l.length).got := by
    simp only [iput, filled, padded]; rw [if_neg (by intro h; simp [h] at hl), hj]
  refine ⟨VD, VC, rfl, hJ.turn hf hg ?_ (iput_ok s off l e hs hb), hG.trans' hf (fun k hk _ => by subst hk; exact .inl rfl), hN⟩
  rw [hc, hy, hz]; rfl
end Go.Proofs.Ytlaomllgjiochaa
