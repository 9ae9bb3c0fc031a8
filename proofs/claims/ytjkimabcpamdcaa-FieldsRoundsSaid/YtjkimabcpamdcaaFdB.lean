/- fields: Line. -/
import Derived.Test.YtjkimabcpamdcaaFdA
namespace Go.Proofs.Ytjkimabcpamdcaa
open Go.RowKit

def fhead (a : ByteArray) : List UInt8 := match fixed.findIdx? (fun x => decide (x.name = a)) with | some k => pput 80 4 k | none => ptext 32 3 a.data.toList
def fline (f : Fd) : List UInt8 := match fixed.findIdx? (fun x => decide (x = f)) with | some k => pput 192 6 k | none => fhead f.name ++ ptext 0 7 f.value.data.toList
theorem fidx_some {α : Type} {q : α → Bool} {l : List α} {k : Nat} (h : l.findIdx? q = some k) : fidx q l = k ∧ k < l.length := by
  unfold fidx
  rw [h]
  obtain ⟨hk, _⟩ := List.findIdx?_eq_some_iff_getElem.1 h
  exact ⟨rfl, hk⟩
theorem fidx_none {α : Type} {q : α → Bool} {l : List α} (h : l.findIdx? q = none) : fidx q l = -1 := by
  unfold fidx; rw [h]
theorem retS_up {E : TypeId} {w w' w1 : World} {n : Nat} {xs : List Value} {e : Ending} (h : RetS E w1 n xs e w') (b : Below w.heap.size w w1) : RetS E w n xs e w' := by
  obtain ⟨A, c, rfl, ho, hb⟩ := h
  exact ⟨A, c, rfl, own_base ho (fun k hk => by have := (ho.lt k hk).1; have := b.size; omega), b.trans (hb.mono b.size)⟩
theorem ptext_len (f : Int) (b : Nat) (s : List UInt8) : (ptext f b s).length ≤ 11 + s.length := by
  unfold ptext
  have := pput_len (pclr f b) b s.length
  rw [List.length_append]; omega

set_option maxRecDepth 100000 in
set_option maxHeartbeats 4000000 in
theorem line_any (a b : ByteArray) (w : World) (ha : a.size ≤ 1000000) (hb : b.size ≤ 1000000) :
    Calls Try.prog 14 #[.agg #[.string a, .string b]] w (RetS 5 w (fline ⟨a, b⟩).length (bv (fline ⟨a, b⟩))) := by
  have hmf := mkfn
  have B1 := (Below.refl _ w).alloc (Nat.le_refl _) (.cells #[.string a, .string b] 24)
  have R1 := HasRow.new w 24 #[.string a, .string b]
  obtain ⟨W1, hW1⟩ : ∃ W1, w.alloc (.cells #[.string a, .string b] 24) = W1 := ⟨_, rfl⟩
  rw [hW1] at B1 R1
  obtain ⟨g, hg⟩ : ∃ g, w.heap.size = g := ⟨_, rfl⟩
  rw [hg] at R1
  replace hW1 := Lib.hid hW1
  replace hg := Lib.hid hg
  replace B1 := Lib.hid B1
  replace R1 := Lib.hid R1
  go_enter Try.func14, Try.ntmps14
  go_wp2_with fail
  rw [hW1.out, hg.out]
  refine (fixed_any W1).mono ?_
  rintro e w2 ⟨A, rfl, rd, b2⟩
  have B2 := Lib.hid (B1.out.trans (b2.mono B1.out.size))
  have R2 := Lib.hid (R1.out.below b2)
  replace rd := Lib.hid rd
  have x0 := R2.out.cell 0 _ rfl
  have x1 := R2.out.cell 1 _ rfl
  clear R1 B1 b2
  go_wp2_with fail
  refine (idx_any fixed A 16 a b w2 rd.out (by decide)).mono ?_
  rintro e w3 ⟨rfl, b3⟩
  have B3 := Lib.hid (B2.out.trans (b3.mono B2.out.size))
  have R3 := Lib.hid (R2.out.below b3)
  have rd3 := Lib.hid (rd.out.below b3)
  clear R2 B2 b3 rd x0 x1
  rcases hf : fixed.findIdx? (fun x => decide (x = (⟨a, b⟩ : Fd))) with _ | k
  · rw [fidx_none hf]
    have hl0 : Hid (fline ⟨a, b⟩ = fhead a ++ ptext 0 7 b.data.toList) := Lib.hid (by unfold fline; rw [hf])
    replace hf := Lib.hid hf
    have y0 := R3.out.cell 0 _ rfl
    go_wp2_with fail
    refine (ptext_any [] 32 3 a none 0 w3 (Rd.nil _ _) (by simp) (by omega) (by omega) (by omega) (by omega) (by omega)).mono ?_
    rintro e w4 ⟨A4, c4, rfl, o4, b4⟩
    have B4 := Lib.hid (B3.out.trans (b4.mono B3.out.size))
    have R4 := Lib.hid (R3.out.below b4)
    have rd4 := Lib.hid (rd3.out.below b4)
    have H4 := Lib.hid (Rd.of_own o4)
    clear R3 B3 rd3 y0 b4 o4
    go_wp2_with fail
    refine (idxf_any fixed A 16 _ _ (fun x => decide (x.name = a)) w4 ent_line1 rd4.out (by decide) (fun W x hW _ => (line1_any x a b g W (R4.out.below hW)).mono (fun e w' h => ⟨h.1, hW.trans (h.2.mono hW.size)⟩))).mono ?_
    rintro e w5 ⟨rfl, b5⟩
    have B5 := Lib.hid (B4.out.trans (b5.mono B4.out.size))
    have R5 := Lib.hid (R4.out.below b5)
    have H5 := Lib.hid (H4.out.below b5)
    clear R4 B4 b5 H4 rd4
    rcases hf2 : fixed.findIdx? (fun x => decide (x.name = a)) with _ | k
    · rw [fidx_none hf2]
      have hl : fhead a = ptext 32 3 a.data.toList := by unfold fhead; rw [hf2]
      rw [hl] at hl0
      have hpl := ptext_len 32 3 a.data.toList
      rw [data_length] at hpl
      replace hf2 := Lib.hid hf2
      clear hl
      simp only [List.nil_append] at H5 ⊢
      have z1 := R5.out.cell 1 _ rfl
      go_wp2_with fail
      refine (ptext_any (ptext 32 3 a.data.toList) 0 7 b A4 c4 w5 H5.out (by omega) (by omega) (by omega) (by omega) (by omega) (by omega)).mono ?_
      intro e w6 h6
      replace h6 := retS_up h6 B5.out
      obtain ⟨A6, c6, rfl, o6, b6⟩ := h6
      replace o6 := Lib.hid o6
      replace b6 := Lib.hid b6
      go_wp2_with fail
      go_ret
      exact ⟨A6, c6, by rw [hl0.out, List.length_append]; rfl, by rw [hl0.out]; exact o6.out, b6.out⟩
    · obtain ⟨h1, h2⟩ := fidx_some hf2
      rw [h1]
      have hl : fhead a = pput 80 4 k := by unfold fhead; rw [hf2]
      rw [hl] at hl0
      have hk16 : k < 16 := h2
      have hwk : IntKind.u64.wrap (k : Int) = (k : Int) := by rw [IntKind.wrap_u64]; omega
      replace hf2 := Lib.hid hf2
      clear hl h1 h2 H5
      go_wp2_with fail
      refine (pput_any [] 80 4 k none 0 w5 (Rd.nil _ _) (by simp) (by omega) (by omega) (by omega) (by omega) (by omega) (by omega)).mono ?_
      rintro e w6 ⟨A6, c6, rfl, o6, b6⟩
      have B6 := Lib.hid (B5.out.trans (b6.mono B5.out.size))
      have R6 := Lib.hid (R5.out.below b6)
      have H6 := Lib.hid (Rd.of_own o6)
      clear B5 R5 o6 b6 hwk
      simp only [List.nil_append] at H6 ⊢
      have hpl := pput_len 80 4 k
      have z1 := R6.out.cell 1 _ rfl
      go_wp2_with fail
      refine (ptext_any (pput 80 4 k) 0 7 b A6 c6 w6 H6.out (by omega) (by omega) (by omega) (by omega) (by omega) (by omega)).mono ?_
      intro e w7 h7
      replace h7 := retS_up h7 B6.out
      obtain ⟨A7, c7, rfl, o7, b7⟩ := h7
      replace o7 := Lib.hid o7
      replace b7 := Lib.hid b7
      go_wp2_with fail
      go_ret
      exact ⟨A7, c7, by rw [hl0.out, List.length_append]; rfl, by rw [hl0.out]; exact o7.out, b7.out⟩
  · obtain ⟨h1, h2⟩ := fidx_some hf
    rw [h1]
    have hl0 : Hid (fline ⟨a, b⟩ = pput 192 6 k) := Lib.hid (by unfold fline; rw [hf])
    have hk16 : k < 16 := h2
    have hwk : IntKind.u64.wrap (k : Int) = (k : Int) := by rw [IntKind.wrap_u64]; omega
    replace hf := Lib.hid hf
    clear h1 h2
    go_wp2_with fail
    refine (pput_any [] 192 6 k none 0 w3 (Rd.nil _ _) (by simp) (by omega) (by omega) (by omega) (by omega) (by omega) (by omega)).mono ?_
    intro e w4 h4
    replace h4 := retS_up h4 B3.out
    simp only [List.nil_append] at h4
    obtain ⟨A4, c4, rfl, o4, b4⟩ := h4
    replace o4 := Lib.hid o4
    replace b4 := Lib.hid b4
    go_wp2_with fail
    go_ret
    exact ⟨A4, c4, by rw [hl0.out]; rfl, by rw [hl0.out]; exact o4.out, b4.out⟩
end Go.Proofs.Ytjkimabcpamdcaa
