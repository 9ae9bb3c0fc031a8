/- The document's own table: Find. -/
import Derived.Test.YtgcnhppafclnmaaTrB
namespace Go.Proofs.Ytgcnhppafclnmaa
open Go.RowKit

def qE (a b : ByteArray) (x : Nat × Fd) : Bool := decide (x.2 = ⟨a, b⟩)
def qN (a : ByteArray) (x : Nat × Fd) : Bool := decide (x.2.name = a)
/-- What the document's Find asks in its first pass (0), and in its second. -/
def qk (k : Nat) (a b : ByteArray) (x : Nat × Fd) : Bool := if k = 0 then qE a b x else qN a x
theorem find_qE (t : Tb) (a b : ByteArray) (m : Nat) (f : Fd) (h : (bk t.l t.l.length).find? (qk 0 a b) = some (m, f)) : t.find ⟨a, b⟩ = (t.gone + m, true, true) := by
  unfold Tb.find
  have h' : (bk t.l t.l.length).find? (fun x => decide (x.2 = (⟨a, b⟩ : Fd))) = some (m, f) := h
  rw [h']
theorem find_qN (t : Tb) (a b : ByteArray) (m : Nat) (f : Fd) (h0 : (bk t.l t.l.length).find? (qk 0 a b) = none) (h : (bk t.l t.l.length).find? (qk 1 a b) = some (m, f)) : t.find ⟨a, b⟩ = (t.gone + m, true, false) := by
  unfold Tb.find
  have h0' : (bk t.l t.l.length).find? (fun x => decide (x.2 = (⟨a, b⟩ : Fd))) = none := h0
  have h' : (bk t.l t.l.length).find? (fun x => decide (x.2.name = (⟨a, b⟩ : Fd).name)) = some (m, f) := h
  rw [h0']
  simp only
  rw [h']
theorem find_qno (t : Tb) (a b : ByteArray) (h0 : (bk t.l t.l.length).find? (qk 0 a b) = none) (h : (bk t.l t.l.length).find? (qk 1 a b) = none) : t.find ⟨a, b⟩ = (0, false, false) := by
  unfold Tb.find
  have h0' : (bk t.l t.l.length).find? (fun x => decide (x.2 = (⟨a, b⟩ : Fd))) = none := h0
  have h' : (bk t.l t.l.length).find? (fun x => decide (x.2.name = (⟨a, b⟩ : Fd).name)) = none := h
  rw [h0']
  simp only
  rw [h']
theorem bk_step (l : List Fd) (m k : Nat) (a b : ByteArray) : (bk l (m + 1)).find? (qk k a b) = if qk k a b (m, l.getD m ⟨.empty, .empty⟩) = true then some (m, l.getD m ⟨.empty, .empty⟩) else (bk l m).find? (qk k a b) := by
  rw [bk, List.find?_cons]
  cases qk k a b (m, l.getD m ⟨.empty, .empty⟩) <;> simp

section
variable {w w' : World} {p : Nat} {A : Option Addr} {c M g : Nat} {F : List Fd}
set_option maxRecDepth 100000 in
set_option maxHeartbeats 8000000 in
theorem rfind_any (h : Rt w p A c M F g) (t : Tb) (hF : t.F = F) (hg : t.gone = g) (a b : ByteArray) (n : Nat) (r1 r2 : Bool) (hf : t.find ⟨a, b⟩ = (n, r1, r2)) :
    Calls Try.prog 18 #[.pointer (some ⟨p, 0, none⟩), .agg #[.string a, .string b]] w fun e w' => e = .returned (.tuple #[.int .u64 n, .bool r1, .bool r2]) ∧ Below w.heap.size w w' := by
  have hle := h.le
  have hsm := h.small
  obtain ⟨N, hN⟩ : ∃ N, F.length = N := ⟨_, rfl⟩
  obtain ⟨l, hl⟩ : ∃ l, t.l = l := ⟨_, rfl⟩
  obtain ⟨L, hL⟩ : ∃ L, l.length = L := ⟨_, rfl⟩
  have hLN : g + L = N := by rw [← hL, ← hl, Tb.l, hF, hg, List.length_drop, ← hN]; omega
  rw [hN] at hle hsm
  have hlF : ∀ m, m < L → F[g + m]? = some (l.getD m ⟨.empty, .empty⟩) := fun m hm => by
    have : l[m]? = F[g + m]? := by rw [← hl, Tb.l, hF, hg, List.getElem?_drop]
    rw [← this, List.getD_eq_getElem?_getD, List.getElem?_eq_getElem (by omega)]; rfl
  have HW : Hid (∀ W, Below w.heap.size w W → W.cell? ⟨p, 1, none⟩ = some (.slice A N c) ∧ W.cell? ⟨p, 2, none⟩ = some (.int .i64 g) ∧ Rd W A (fdv F)) := Lib.hid (fun W hW => ⟨by have := wrote_cell (h.below hW).cell 1 _ rfl; rw [hN] at this; exact this, wrote_cell (h.below hW).cell 2 _ rfl, (h.below hW).rd⟩)
  have HB : Hid (∀ o W, o = Obj.cells #[.string a, .string b] 28 → ∀ q, W = (w.alloc o).drewN q → Below w.heap.size w W ∧ W.cell? ⟨w.heap.size, 0, none⟩ = some (.string a) ∧ W.cell? ⟨w.heap.size, 1, none⟩ = some (.string b)) := Lib.hid (fun o W ho q hW => by
    subst hW
    have R := rtx_start h a b o ((w.alloc o).drewN q) ho (Still.drewN _ q).below
    exact ⟨((Below.refl _ w).alloc (Nat.le_refl _) o).trans ((Still.drewN _ q).below.mono (by simp)), R.bx.1, R.bx.2⟩)
  have HE : Hid (∀ m f, (bk l L).find? (qk 0 a b) = some (m, f) → n = g + m ∧ r1 = true ∧ r2 = true) := Lib.hid (fun m f hh => by
    have := find_qE t a b m f (by rw [hl, hL]; exact hh)
    rw [hf, hg] at this
    injection this with h1 h2
    injection h2 with h2 h3
    exact ⟨h1, h2, h3⟩)
  have HN2 : Hid (∀ m f, (bk l L).find? (qk 0 a b) = none → (bk l L).find? (qk 1 a b) = some (m, f) → n = g + m ∧ r1 = true ∧ r2 = false) := Lib.hid (fun m f h0 hh => by
    have := find_qN t a b m f (by rw [hl, hL]; exact h0) (by rw [hl, hL]; exact hh)
    rw [hf, hg] at this
    injection this with h1 h2
    injection h2 with h2 h3
    exact ⟨h1, h2, h3⟩)
  have HZ : Hid ((bk l L).find? (qk 0 a b) = none → (bk l L).find? (qk 1 a b) = none → n = 0 ∧ r1 = false ∧ r2 = false) := Lib.hid (fun h0 hh => by
    have := find_qno t a b (by rw [hl, hL]; exact h0) (by rw [hl, hL]; exact hh)
    rw [hf] at this
    injection this with h1 h2
    injection h2 with h2 h3
    exact ⟨h1, h2, h3⟩)
  replace hN := Lib.hid hN
  replace hL := Lib.hid hL
  replace hlF := Lib.hid hlF
  clear h hF hg hf hl
  go_enter Try.func18, Try.ntmps18
  go_wp2_with fail
  obtain ⟨W0, hW0⟩ : ∃ W0, w.alloc (.cells #[.string a, .string b] 28) = W0 := ⟨_, rfl⟩
  rw [hW0] at ⊢
  have HB0 : Hid (∀ q, Below w.heap.size w (W0.drewN q) ∧ (W0.drewN q).cell? ⟨w.heap.size, 0, none⟩ = some (.string a) ∧ (W0.drewN q).cell? ⟨w.heap.size, 1, none⟩ = some (.string b)) := Lib.hid (fun q => by rw [← hW0]; exact HB.out _ _ rfl q rfl)
  replace hW0 := Lib.hid hW0
  clear HB
  go_loopw [7] (fun i wr => ∃ k q : Nat, k ≤ 2 ∧ i = .int .i64 k ∧ wr = W0.drewN q ∧ Hid ((1 ≤ k → (bk l L).find? (qk 0 a b) = none) ∧ (2 ≤ k → (bk l L).find? (qk 1 a b) = none))) (fun i _ => 2 - (intOf i).toNat)
  case atStart => exact ⟨0, 0, by omega, rfl, rfl, Lib.hid ⟨fun h => by omega, fun h => by omega⟩⟩
  case round =>
    obtain ⟨k, q, hk, rfl, rfl, HK⟩ := hrel
    by_cases hk2 : k < 2
    · rename_i aa; clear aa
      obtain ⟨x1, x2, -⟩ := HW.out W0 (HB0.out 0).1
      have dk : decide (k < 2) = true := decide_eq_true hk2
      have dk' : decide ((k : Int) < 2) = true := decide_eq_true (by omega)
      go_wp2_with fail
      clear x1 x2 dk dk'
      go_loopw [8] (fun i wr => ∃ (m q2 : Nat) (iv : Int), m ≤ L ∧ i = .int .i64 iv ∧ iv = (g : Int) + (m : Int) - 1 ∧ wr = W0.drewN q2 ∧ Hid ((bk l m).find? (qk k a b) = (bk l L).find? (qk k a b))) (fun i _ => ((intOf i) + 1 - (g : Int)).toNat)
      case atStart => exact ⟨L, q, _, Nat.le_refl _, rfl, by omega, rfl, Lib.hid rfl⟩
      case round =>
        obtain ⟨m, q2, iv, hm, rfl, hiv, rfl, HM⟩ := hrel
        have hbl := (HB0.out q2).1
        obtain ⟨hbl0, y0, y1⟩ := HB0.out 0
        replace y0 : W0.cell? ⟨w.heap.size, 0, none⟩ = some (.string a) := y0
        replace y1 : W0.cell? ⟨w.heap.size, 1, none⟩ = some (.string b) := y1
        obtain ⟨x1, x2, xr⟩ := HW.out W0 hbl0
        clear hbl0
        by_cases hm0 : m = 0
        · subst hm0
          have hnone := HM.out
          have d1 : decide ((g : Int) ≤ iv) = false := decide_eq_false (by omega)
          have HK2 : Hid ((1 ≤ k + 1 → (bk l L).find? (qk 0 a b) = none) ∧ (2 ≤ k + 1 → (bk l L).find? (qk 1 a b) = none)) := Lib.hid (by
            have hz : (bk l L).find? (qk k a b) = none := hnone.symm
            refine ⟨fun _ => ?_, fun h2 => ?_⟩
            · by_cases e : k = 0
              · rw [e] at hz; exact hz
              · exact HK.out.1 (by omega)
            · have e : k = 1 := by omega
              rw [e] at hz; exact hz)
          clear hnone HM HK xr y0 y1
          go_wp2_with fail
          go_roundw
          case rel => exact ⟨k + 1, q2, by omega, by go_num, rfl, HK2⟩
          case measure => simp [intOf]; omega
        · obtain ⟨m', rfl⟩ : ∃ m', m = m' + 1 := ⟨m - 1, by omega⟩
          obtain ⟨q1, hq1⟩ : ∃ q1, g + m' = q1 := ⟨_, rfl⟩
          obtain rfl : iv = (q1 : Int) := by omega
          have d1 : decide ((g : Int) ≤ (q1 : Int)) = true := decide_eq_true (by omega)
          have d1' : decide (g ≤ q1) = true := decide_eq_true (by omega)
          have hel := hlF.out m' (by omega)
          have hst := bk_step l m' k a b
          rw [hq1] at hel
          obtain ⟨hql, hqe⟩ := List.getElem?_eq_some_iff.1 hel
          obtain ⟨f, hf⟩ : ∃ f, l.getD m' ⟨.empty, .empty⟩ = f := ⟨_, rfl⟩
          rw [hf] at hst hqe
          obtain ⟨b6, o6, rfl, z0, z1⟩ := load_fd xr hql
          rw [hqe] at z0 z1
          obtain ⟨fa, fb⟩ := f
          simp only at z0 z1
          rw [hst] at HM
          have hqN : (q1 : Int) < (N : Int) := by omega
          have hq0 : (0 : Int) ≤ (q1 : Int) := by omega
          have hwq : IntKind.u64.wrap (q1 : Int) = (q1 : Int) := by rw [IntKind.wrap_u64]; omega
          have hnx : Hid ((q1 : Int) - 1 = (g : Int) + (m' : Int) - 1) := Lib.hid (by omega)
          replace hq1 := Lib.hid hq1
          replace hf := Lib.hid hf
          clear hel hst hqe hql xr hiv
          have hcs : (fa = a ∧ fb = b) ∨ (fa = a ∧ fb ≠ b) ∨ fa ≠ a := by
            by_cases e1 : fa = a
            · by_cases e2 : fb = b
              · exact .inl ⟨e1, e2⟩
              · exact .inr (.inl ⟨e1, e2⟩)
            · exact .inr (.inr e1)
          have hk01 : k = 0 ∨ k = 1 := by omega
          have hqE : ∀ k, qk k a b (m', ⟨fa, fb⟩) = if k = 0 then decide ((⟨fa, fb⟩ : Fd) = ⟨a, b⟩) else decide (fa = a) := fun k => by
            unfold qk qE qN; rfl
          rw [hqE k] at HM
          clear hqE
          rcases hcs with ⟨rfl, rfl⟩ | ⟨rfl, hne⟩ | hne
          · rcases hk01 with rfl | rfl
            · have HR := HE.out m' ⟨fa, fb⟩ (by have := HM.out; rw [if_pos (by simp)] at this; exact this.symm)
              obtain ⟨rfl, rfl, rfl⟩ := HR
              clear HM HK
              go_wp2_with fail
              go_big_quiet (fail)
              clear z0 z1 x1 x2 y0 y1
              go_wp2_with fail
              go_ret3
              exact ⟨by rw [hq1.out]; rfl, (HB0.out _).1⟩
            · have HR := HN2.out m' ⟨fa, fb⟩ (HK.out.1 (by omega)) (by have := HM.out; rw [if_pos (by simp)] at this; exact this.symm)
              obtain ⟨rfl, rfl, rfl⟩ := HR
              clear HM HK
              go_wp2_with fail
              go_big_quiet (fail)
              clear z0 z1 x1 x2 y0 y1
              go_wp2_with fail
              go_ret3
              exact ⟨by rw [hq1.out]; rfl, (HB0.out _).1⟩
          · have hl2 := ba_list_ne hne
            rcases hk01 with rfl | rfl
            · have HM2 : Hid ((bk l m').find? (qk 0 fa b) = (bk l L).find? (qk 0 fa b)) := Lib.hid (by have := HM.out; rw [if_neg (by simp; exact hne)] at this; exact this)
              clear HM hne
              go_wp2_with fail
              go_big_quiet (fail)
              clear z0 z1 x1 x2 y0 y1
              go_wp2_with fail
              go_roundw
              case rel => exact ⟨m', _, _, by omega, rfl, hnx.out, rfl, HM2⟩
              case measure => simp [intOf]; have := hq1.out; omega
            · have HR := HN2.out m' ⟨fa, fb⟩ (HK.out.1 (by omega)) (by have := HM.out; rw [if_pos (by simp)] at this; exact this.symm)
              obtain ⟨rfl, rfl, rfl⟩ := HR
              clear HM HK hne
              go_wp2_with fail
              go_big_quiet (fail)
              clear z0 z1 x1 x2 y0 y1
              go_wp2_with fail
              go_ret3
              exact ⟨by rw [hq1.out]; rfl, (HB0.out _).1⟩
          · have hl2 := ba_list_ne hne
            have HM2 : Hid ((bk l m').find? (qk k a b) = (bk l L).find? (qk k a b)) := Lib.hid (by
              have := HM.out
              rw [if_neg] at this
              · exact this
              · split
                · simp; exact fun e => absurd e hne
                · simpa using hne)
            clear HM hne
            rcases hk01 with rfl | rfl
            all_goals
              go_wp2_with fail
              go_big_quiet (fail)
              clear z0 z1 x1 x2 y0 y1
              go_wp2_with fail
              go_roundw
              case rel => exact ⟨m', _, _, by omega, rfl, hnx.out, rfl, HM2⟩
              case measure => simp [intOf]; have := hq1.out; omega
    · have hk' : k = 2 := by omega
      subst hk'
      obtain ⟨rfl, rfl, rfl⟩ := HZ.out (HK.out.1 (by omega)) (HK.out.2 (by omega))
      have hbl := (HB0.out q).1
      clear HK
      go_wp2_with fail
      go_ret3
      exact ⟨rfl, hbl⟩
end
end Go.Proofs.Ytgcnhppafclnmaa
