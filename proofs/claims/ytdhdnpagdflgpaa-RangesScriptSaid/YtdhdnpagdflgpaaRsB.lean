/- ranges: Below. -/
import Derived.Test.YtdhdnpagdflgpaaRsA
namespace Go.Proofs.Ytdhdnpagdflgpaa
open Go.RowKit

theorem run_max2u {P : Program} (x y m : Int) (h : m = max x y) (ts : Array TypeId) (t : TypeId) (w : World) : (Builtin.max_ ts t #[.int .u64 x, .int .u64 y]).run P w = .ok (.int .u64 m) w := by
  rw [run_max_int2, h]
  congr 2
  split <;> omega
section
variable {w w' : World} {p : Nat} {A : Option Addr} {c : Nat} {s : Rs}
/-- Fewer ranges in the same row, the floor another. -/
theorem IsSet.cut (h : IsSet w p A c s) (i : Nat) (hi : i ≤ s.l.length) (o : w.ownsRow 0 33 2 (.slice A i c) i (rgv (s.l.take i))) : IsSet (w.setCell ⟨p, 1, none⟩ (.slice A i c)) p A c ⟨s.most, s.l.take i, s.floor⟩ := by
  have hl : (s.l.take i).length = i := by rw [List.length_take]; omega
  have F : Fr (fun j => j = p) w (w.setCell ⟨p, 1, none⟩ (.slice A i c)) := (Fr.refl (fun j => j = p) w).setCell (p := ⟨p, 1, none⟩) (fun _ => rfl) _
  refine ⟨?_, ?_, by simp only [hl]; have := h.small; omega, fun r hr => h.tops r (List.mem_of_mem_take hr), h.most, h.fl⟩
  · have := heap_setCell_same w p 1 _ _ (.slice A i c) h.cell
    simp only [hl]; exact this
  · simp only [hl]
    exact own_fr o F (fun j hj e => by
      cases A with
      | none => cases hj
      | some a => injection hj with hj; subst hj; exact h.ne a rfl e)

set_option maxRecDepth 100000 in
set_option maxHeartbeats 8000000 in
theorem below_any (h : IsSet w p A c s) (hok : Rok s.l) (n : Nat) (hn : n < 18446744073709551616) : Calls Try.prog 16 #[.pointer (some ⟨p, 0, none⟩), .int .u64 n] w fun e w' =>
    e = .returned (.tuple #[]) ∧ IsSet w' p A c (s.below n) ∧ Fr (OnB p A) w w' := by
  have hmf := mkfn
  have hX : ∀ m, (w.alloc (.cells #[.int .u64 n] m)).cell? ⟨w.heap.size, 0, none⟩ = some (.int .u64 n) := fun m => by rw [World.cell?_alloc_new]; rfl
  obtain ⟨i, hi⟩ : ∃ i, rat s.l n = i := ⟨_, rfl⟩
  have hil : i ≤ s.l.length := by rw [← hi]; exact (List.takeWhile_sublist _).length_le
  obtain ⟨F, hF⟩ : ∃ F, max s.floor n = F := ⟨_, rfl⟩
  have hFb : F ≤ 18446744073709551615 := by have := h.fl; omega
  obtain ⟨hf1, hf2⟩ := rat_filter hok n
  rw [hi] at hf1 hf2
  have HB : Hid (s.below n = ⟨s.most, rlow (s.l.take i) n, F⟩) := Lib.hid (by unfold Rs.below rbelow; rw [hf1, hF])
  obtain ⟨L, hL⟩ : ∃ L, s.l.length = L := ⟨_, rfl⟩
  have hsm := h.small
  have c2 : ∀ m, (w.alloc (.cells #[.int .u64 n] m)).cell? ⟨p, 2, none⟩ = some (.int .u64 s.floor) := fun m => wrote_cell (h.alloc _).cell 2 _ rfl
  have f2 : ∀ m, (w.alloc (.cells #[.int .u64 n] m)).frozen? ⟨p, 2, none⟩ = false := fun m => frozen_of_row _ p 2 _ _ (h.alloc _).cell
  have HM := fun (ts : Array TypeId) (t : TypeId) (w : World) => run_max2u (P := Try.prog) s.floor n F (by omega) ts t w
  have h1 : Hid (∀ m, IsSet ((w.alloc (.cells #[.int .u64 n] m)).setCell ⟨p, 2, none⟩ (.int .u64 F)).drew p A c ⟨s.most, s.l, F⟩ ∧ ((w.alloc (.cells #[.int .u64 n] m)).setCell ⟨p, 2, none⟩ (.int .u64 F)).drew.cell? ⟨w.heap.size, 0, none⟩ = some (.int .u64 n) ∧ Fr (OnB p A) w ((w.alloc (.cells #[.int .u64 n] m)).setCell ⟨p, 2, none⟩ (.int .u64 F)).drew) := Lib.hid (fun m => by
    have J := h.alloc (.cells #[.int .u64 n] m)
    have FS : Fr (fun k => k = p) w ((w.alloc (.cells #[.int .u64 n] m)).setCell ⟨p, 2, none⟩ (.int .u64 F)).drew := (((Fr.refl (fun k => k = p) w).alloc _).setCell (p := ⟨p, 2, none⟩) (fun _ => rfl) _).drew
    have FX : Fr (fun k => k = p) (w.alloc (.cells #[.int .u64 n] m)) ((w.alloc (.cells #[.int .u64 n] m)).setCell ⟨p, 2, none⟩ (.int .u64 F)).drew := ((Fr.refl (fun k => k = p) _).setCell (p := ⟨p, 2, none⟩) (fun _ => rfl) _).drew
    refine ⟨⟨heap_setCell_same _ p 2 _ _ (.int .u64 F) J.cell, own_fr (n := s.l.length) (xs := rgv s.l) h.row FS (fun j hj e => ?_), h.small, h.tops, h.most, hFb⟩, ?_, FS.mono (fun j hj _ => .inl hj)⟩
    · cases A with
      | none => cases hj
      | some a => injection hj with hj; subst hj; exact h.ne a rfl e
    · rw [FX.cell (by simp) (by have := h.lt; simp; omega)]; exact hX m)
  have CD : Hid (∀ W, IsSet W p A c ⟨s.most, s.l, F⟩ → W.cell? ⟨w.heap.size, 0, none⟩ = some (.int .u64 n) → Calls Try.prog 28 #[.slice A L c, .func (.func 29) #[] #[.pointer (some ⟨w.heap.size, 0, none⟩)]] W fun e w' =>
      e = .returned (.slice A i c) ∧ w'.cell? ⟨p, 1, none⟩ = some (.slice A L c) ∧ w'.frozen? ⟨p, 1, none⟩ = false ∧ w'.cell? ⟨w.heap.size, 0, none⟩ = some (.int .u64 n) ∧
      IsSet (w'.setCell ⟨p, 1, none⟩ (.slice A i c)) p A c ⟨s.most, s.l.take i, F⟩ ∧ Fr (OnB p A) W (w'.setCell ⟨p, 1, none⟩ (.slice A i c))) := Lib.hid (fun W I hXW => by
    have hltX := World.block_lt_of_cell? W _ hXW
    have hq : ∀ W2 x, Below W.heap.size W W2 → x ∈ s.l → Calls Try.prog 29 (#[x.agg] ++ #[.pointer (some ⟨w.heap.size, 0, none⟩)]) W2 fun e w' => e = .returned (.bool (decide (x.hi < n))) ∧ Below W.heap.size W w' := fun W2 r hb2 _ => by
      refine (below1_any r n w.heap.size W2 ((hb2.cell (by simpa using hltX)).trans hXW)).mono ?_
      rintro e w' ⟨rfl, hb3⟩
      exact ⟨rfl, hb2.trans (hb3.mono hb2.size)⟩
    have hfr := fidx_rat s.l n
    rw [hi] at hfr
    by_cases hlt : i < s.l.length
    · rw [if_pos hlt] at hfr
      obtain ⟨g, hA⟩ : ∃ g, A = some ⟨g, 0, none⟩ := by
        rcases ownS_cases I.row with ⟨_, h2, _⟩ | ⟨g, h2, _⟩
        · simp only at h2; omega
        · exact ⟨g, h2⟩
      subst hA
      have hpg : p ≠ g := fun e => I.ne _ rfl e.symm
      have := delf_tail s.l g c i _ _ (fun r => decide (r.hi < n)) W ent_below I.row (by omega) hfr hlt (fun j y hj hy => decide_eq_true (hf2 j y hj hy)) hq
      rw [hL] at this
      refine this.mono ?_
      rintro e w' ⟨rfl, o, F'⟩
      have I' : w'.heap[p]? = _ := heap_fr I.cell F' (fun e => hpg e)
      have e1 := wrote_cell I' 1 _ rfl
      simp only [hL] at e1
      refine ⟨rfl, e1, frozen_of_row w' p 1 _ _ I', ?_, ?_, (F'.mono (fun j hj _ => .inr ⟨_, rfl, hj.symm⟩)).setCell (p := ⟨p, 1, none⟩) (fun _ => .inl rfl) _⟩
      · rw [F'.cell hltX (by simp only; have := I.on_lt g (.inr ⟨_, rfl, rfl⟩); intro e; have h5 := h.on_lt g (.inr ⟨_, rfl, rfl⟩); omega)]; exact hXW
      · have F2 : Fr (fun j => j = p) w' (w'.setCell ⟨p, 1, none⟩ (.slice (some ⟨g, 0, none⟩) i c)) := (Fr.refl (fun j => j = p) w').setCell (p := ⟨p, 1, none⟩) (fun _ => rfl) _
        have hl : (s.l.take i).length = i := by rw [List.length_take]; omega
        refine ⟨?_, ?_, by simp only [hl]; omega, fun r hr => h.tops r (List.mem_of_mem_take hr), h.most, hFb⟩
        · have := heap_setCell_same w' p 1 _ _ (.slice (some ⟨g, 0, none⟩) i c) I'
          simp only [hl]; exact this
        · simp only [hl]
          exact own_fr o F2 (fun j hj e => by injection hj with hj; simp only at hj; subst hj; exact hpg e.symm)
    · rw [if_neg hlt] at hfr
      have hiL : i = L := by omega
      have := delf_no s.l A c _ _ (fun r => decide (r.hi < n)) W ent_below I.rd (by omega) hfr hq
      rw [hL] at this
      refine this.mono ?_
      rintro e w' ⟨rfl, b⟩
      have I' := I.below b
      have e1 := wrote_cell I'.cell 1 _ rfl
      simp only [hL] at e1
      have ht : s.l.take i = s.l := List.take_of_length_le (by omega)
      refine ⟨by rw [hiL], e1, frozen_of_row w' p 1 _ _ I'.cell, ?_, ?_, (Fr.of_below b _).setCell (p := ⟨p, 1, none⟩) (fun _ => .inl rfl) _⟩
      · rw [b.cell hltX]; exact hXW
      · have := I'.cut i (by simp only; omega) (by have := I'.row; simp only at this ⊢; rw [ht, show i = s.l.length by omega]; exact this)
        exact this)
  have HR : Hid (∀ r ∈ s.l, r.hi ≤ 4611686018427387903) := Lib.hid h.tops
  rw [HB.out]
  have hiL : i ≤ L := by omega
  have hL100 : L ≤ 100 := by omega
  have H := Lib.hid h
  obtain ⟨mo, hmo⟩ : ∃ mo, s.most = mo := ⟨_, rfl⟩
  obtain ⟨l2, hl2⟩ : ∃ l2, s.l.take i = l2 := ⟨_, rfl⟩
  have hl2n : Hid (l2.length = i) := Lib.hid (by rw [← hl2, List.length_take]; omega)
  rw [hl2, hmo] at CD
  rw [hmo] at h1
  rw [hl2, hmo]
  have hc1 : Hid (∀ W l F', IsSet W p A c ⟨mo, l, F'⟩ → l.length = L → W.cell? ⟨p, 1, none⟩ = some (.slice A L c) ∧ W.frozen? ⟨p, 1, none⟩ = false) := Lib.hid (fun W l F' I hl => by
    have := wrote_cell I.cell 1 _ rfl
    simp only [hl] at this
    exact ⟨this, frozen_of_row W p 1 _ _ I.cell⟩)
  have hsL : Hid (s.l.length = L) := Lib.hid hL
  clear hi hf1 hf2 hF hL h hsm hil hmo hl2 hok hX
  go_enter Try.func16, Try.ntmps16
  go_wp2_with fail
  go_region
  obtain ⟨I1, X1, F1⟩ := h1.out 29
  obtain ⟨W1, hW1⟩ : ∃ W1, ((w.alloc (.cells #[.int .u64 n] 29)).setCell ⟨p, 2, none⟩ (.int .u64 F)).drew = W1 := ⟨_, rfl⟩
  rw [hW1] at I1 X1 F1 ⊢
  obtain ⟨d1, d2⟩ := hc1.out W1 s.l F I1 hsL.out
  replace I1 := Lib.hid I1
  replace F1 := Lib.hid F1
  clear h1 c2 f2 HM hW1
  rcases Nat.eq_zero_or_pos i with hi0 | hi0
  · subst hi0
    obtain rfl : l2 = [] := List.eq_nil_of_length_eq_zero hl2n.out
    go_wp2_with fail
    refine (CD.out W1 I1.out X1).mono ?_
    rintro e w2 ⟨rfl, e1, e2, e3, I2, F2⟩
    replace I2 := Lib.hid I2
    have F02 := Lib.hid (F1.out.trans F2)
    clear CD F2 d1 d2
    go_wp2_with fail
    go_end0
    exact ⟨rfl, I2.out, F02.out⟩
  · obtain ⟨k, rfl⟩ : ∃ k, i = k + 1 := ⟨i - 1, by omega⟩
    obtain ⟨r, hr⟩ : ∃ r, l2[k]? = some r := ⟨_, List.getElem?_eq_getElem (by rw [hl2n.out]; omega)⟩
    have hk1 : ((k + 1 : Nat) : Int) - 1 = (k : Int) := by omega
    obtain ⟨g, hA⟩ : ∃ g, A = some ⟨g, 0, none⟩ := by
      rcases I1.out.at with h1 | ⟨g, h1, _⟩
      · have := ownS_cases I1.out.row
        rcases this with ⟨_, h2, _⟩ | ⟨g, h2, _⟩
        · simp only at h2; have := hsL.out; omega
        · exact ⟨g, h2⟩
      · exact ⟨g, h1⟩
    subst hA
    obtain ⟨M, hM⟩ : ∃ M, max r.lo n = M := ⟨_, rfl⟩
    have HM := fun (ts : Array TypeId) (t : TypeId) (w : World) => run_max2u (P := Try.prog) r.lo n M (by omega) ts t w
    have hlow : Hid (rlow l2 n = l2.set k ⟨M, r.hi⟩) := Lib.hid (by
      have hne : l2 ≠ [] := fun e => by rw [e] at hr; simp at hr
      have hkl : k = l2.length - 1 := by rw [hl2n.out]; omega
      have hgl : l2.getLast? = some r := by rw [List.getLast?_eq_getElem?, ← hkl, hr]
      rw [rlow_last, hgl, ← hM]
      simp only
      conv => rhs; rw [← List.dropLast_concat_getLast hne]
      rw [List.set_append_right _ _ (by rw [List.length_dropLast]; omega), List.length_dropLast, hkl, Nat.sub_self, List.set_cons_zero])
    replace hr := Lib.hid hr
    go_wp2_with fail
    refine (CD.out W1 I1.out X1).mono ?_
    rintro e w2 ⟨rfl, e1, e2, e3, I2, F2⟩
    have F02 := Lib.hid (F1.out.trans F2)
    obtain ⟨w3, hw3⟩ : ∃ w3, w2.setCell ⟨p, 1, none⟩ (.slice (some ⟨g, 0, none⟩) (k + 1) c) = w3 := ⟨_, rfl⟩
    have f1 : Fr (fun j => j = p) w2 w3 := by rw [← hw3]; exact (Fr.refl (fun j => j = p) w2).setCell (p := ⟨p, 1, none⟩) (fun _ => rfl) _
    rw [hw3] at I2 F02
    have hlt3 := World.block_lt_of_cell? w2 _ e3
    have X3 : w3.cell? ⟨w.heap.size, 0, none⟩ = some (.int .u64 n) := by rw [f1.cell hlt3 (by simp only; have := H.out.lt; omega)]; exact e3
    have q1 := wrote_cell I2.cell 1 _ rfl
    simp only [hl2n.out] at q1
    obtain ⟨b, off, hA, l0, l1⟩ := load_rg I2.rd (k := k) (by simp only; rw [hl2n.out]; omega)
    injection hA with hA
    injection hA with hA1 hA2
    subst hA1 hA2
    have hrk : (l2[k]'(by rw [hl2n.out]; omega)) = r := by
      have := hr.out
      rw [List.getElem?_eq_getElem (by rw [hl2n.out]; omega)] at this
      injection this
    simp only [hrk, Nat.zero_add] at l0 l1
    have hfr := I2.row.frozenAt (k * 2)
    have hcp : k + 1 ≤ c ∧ c ≤ 9223372036854775807 := by
      rcases ownS_cases I2.row with ⟨h1, _⟩ | ⟨_, _, _, _, h1, h2⟩
      · cases h1
      · simp only [hl2n.out] at h1; exact ⟨h1, by simpa [maxLen] using h2⟩
    have hfin : Hid (IsSet ((w3.setCell ⟨g, k * 2, none⟩ (.int .u64 M)).drew) p (some ⟨g, 0, none⟩) c ⟨mo, rlow l2 n, F⟩ ∧ Fr (OnB p (some ⟨g, 0, none⟩)) w ((w3.setCell ⟨g, k * 2, none⟩ (.int .u64 M)).drew)) := Lib.hid (by
      have hpg : p ≠ g := fun e => I2.ne _ rfl e.symm
      have st := (I2.row.stored (k * 2) (.int .u64 M)).1
      have hkl : k < l2.length := by rw [hl2n.out]; omega
      rw [rgv_setlo l2 k M hkl, hrk] at st
      rw [hlow.out]
      refine ⟨⟨?_, ?_, ?_, ?_, I2.most, I2.fl⟩, F02.out.trans (((Fr.refl _ w3).setCell (p := ⟨g, k * 2, none⟩) (fun _ => .inr ⟨_, rfl, rfl⟩) _).drew)⟩
      · have := I2.cell
        simp only [List.length_set]
        show (w3.setCell ⟨g, k * 2, none⟩ (.int .u64 M)).heap[p]? = _
        rw [heap_setCell_other _ _ _ _ (by simpa using hpg)]
        exact this
      · simp only [List.length_set]
        exact st
      · simp only [List.length_set]; exact I2.small
      · intro y hy
        rcases List.mem_or_eq_of_mem_set hy with hy | rfl
        · exact I2.tops y hy
        · exact I2.tops r (List.mem_of_getElem? hr.out))
    replace I2 := Lib.hid I2
    clear CD F2 d1 d2 f1 hM hlow hrk
    have e3' := e3
    go_wp2_with fail
    go_region
    go_wp2_with fail
    go_end0
    exact ⟨rfl, hfin.out.1, hfin.out.2⟩
end
end Go.Proofs.Ytdhdnpagdflgpaa
