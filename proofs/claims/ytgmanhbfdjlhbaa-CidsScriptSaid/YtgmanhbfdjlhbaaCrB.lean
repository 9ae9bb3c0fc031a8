/- The document's pool: For. -/
import Derived.Test.YtgmanhbfdjlhbaaCrA
import Derived.Lib.ConvBytes
namespace Go.Proofs.Ytgmanhbfdjlhbaa
open Go.RowKit

/-- '[]byte(s)': a new row that reads so. -/
theorem conv_bytes (w : World) (l : List UInt8) : ∃ c w', (convert 9 22 (.string (sob l))).run Try.prog w = .ok (.slice (some ⟨w.heap.size, 0, none⟩) l.length c) w' ∧ Below w.heap.size w w' ∧ Rd w' (some ⟨w.heap.size, 0, none⟩) (bv l) := by
  have h := Lib.run_convert_string_bytes (P := Try.prog) w 9 22 5 (sob l) Try.underlying9 Try.underlying22 Try.underlying5
  have hs : (sob l).size = l.length := by show l.toArray.size = _; simp
  refine ⟨_, Lib.bytesWorld w 5 (sob l), by rw [hs] at h; exact h, ⟨rfl, rfl, rfl, by rw [Lib.bytesWorld_size]; omega, fun k hk => Lib.bytesWorld_at_old w _ _ k hk⟩, fun _ => ⟨w.heap.size, 0, rfl, fun k u hu => ?_⟩⟩
  have hk : k < l.length := by have := (List.getElem?_eq_some_iff.1 hu).1; simpa using this
  rw [Nat.zero_add, Lib.bytesWorld_cell w _ _ k (by rw [hs]; exact hk)]
  rw [bv_get hk] at hu
  injection hu with hu
  rw [← hu]
  have e : (sob l).data.toList = l := by show l.toArray.toList = l; simp
  rw [e]
  simp [List.getD, hk]
theorem rb1 (x : Nm) (b : Option Nm) : rbest [x] b = if x.free && (match b with | none => true | some y => decide (x.seq < y.seq)) then some x else b := rfl
theorem rbest_app (x : Nm) : ∀ (l : List Nm) (b : Option Nm), rbest (l ++ [x]) b = rbest [x] (rbest l b)
  | [], _ => rfl
  | y :: l, b => rbest_app x l _
/-- The best place so far. -/
def RB (l : List Nm) (k : Nat) (b : Int) : Prop := (b = -1 ∧ rbest (l.take k) none = none) ∨ ∃ (j : Nat) (hj : j < l.length), j < k ∧ b = j ∧ rbest (l.take k) none = some l[j]
theorem RB.zero (l : List Nm) : RB l 0 (-1) := .inl ⟨rfl, by simp [rbest]⟩
section
variable {l : List Nm} {k : Nat} {b : Int}
theorem RB.next (hk : k < l.length) : rbest (l.take (k + 1)) none = rbest [l[k]] (rbest (l.take k) none) := by
  rw [List.take_succ_eq_append_getElem hk, rbest_app]
theorem RB.busy (h : RB l k b) (hk : k < l.length) (hf : (l[k]).free = false) : RB l (k + 1) b := by
  have e := RB.next hk
  rw [rb1, hf] at e
  simp only [Bool.false_and, Bool.false_eq_true, if_false] at e
  rcases h with ⟨h1, h2⟩ | ⟨j, hj, h1, h2, h3⟩
  · exact .inl ⟨h1, by rw [e]; exact h2⟩
  · exact .inr ⟨j, hj, by omega, h2, by rw [e]; exact h3⟩
theorem RB.first (h : RB l k (-1)) (hk : k < l.length) (hf : (l[k]).free = true) : RB l (k + 1) k := by
  have e := RB.next hk
  rcases h with ⟨h1, h2⟩ | ⟨j, hj, h1, h2, h3⟩
  · refine .inr ⟨k, hk, by omega, rfl, ?_⟩
    rw [e, h2, rb1, hf]; rfl
  · omega
theorem RB.less {j : Nat} (h : RB l k j) (hk : k < l.length) (hj : j < l.length) (hf : (l[k]).free = true) (hl : (l[k]).seq < (l[j]).seq) : RB l (k + 1) k := by
  have e := RB.next hk
  rcases h with ⟨h1, h2⟩ | ⟨i, hi, h1, h2, h3⟩
  · omega
  · obtain rfl : i = j := by omega
    refine .inr ⟨k, hk, by omega, rfl, ?_⟩
    rw [e, h3, rb1, hf]
    simp [hl]
theorem RB.more {j : Nat} (h : RB l k j) (hk : k < l.length) (hj : j < l.length) (hl : ¬ (l[k]).seq < (l[j]).seq) : RB l (k + 1) j := by
  have e := RB.next hk
  rcases h with ⟨h1, h2⟩ | ⟨i, hi, h1, h2, h3⟩
  · omega
  · obtain rfl : i = j := by omega
    refine .inr ⟨i, hi, by omega, rfl, ?_⟩
    rw [e, h3, rb1]
    simp [hl]
end
theorem nm_setp (x : Nm) (q : Int) : Nm.cells { x with path := q } = x.cells.set 4 (.int .i64 q) := rfl
theorem nm_sett (x : Nm) : Nm.cells { x with told := true } = x.cells.set 5 (.bool true) := rfl
theorem cset_at {l : List Nm} (uq : l.Pairwise (fun a b => a.seq ≠ b.seq)) {k : Nat} (hk : k < l.length) (q : Int) : cset l (l[k]).seq q = l.set k { l[k] with path := q } := by
  unfold cset
  apply List.ext_getElem?
  intro i
  rw [List.getElem?_map, List.getElem?_set]
  by_cases h : k = i
  · subst h
    rw [if_pos rfl, if_pos hk, List.getElem?_eq_getElem hk]
    simp
  · rw [if_neg h]
    rcases hi : l[i]? with _ | y
    · rfl
    · obtain ⟨hil, rfl⟩ := List.getElem?_eq_some_iff.1 hi
      have hne : (l[i]).seq ≠ (l[k]).seq := by
        rcases Nat.lt_or_ge k i with h1 | h1
        · exact fun e => List.pairwise_iff_getElem.1 uq k i hk hil h1 e.symm
        · exact List.pairwise_iff_getElem.1 uq i k hil hk (by omega)
      simp [hne]
section
variable {w w' : World} {p : Nat} {A : Option Addr} {c : Nat} {r : Cd}
/-- Stores into the row, and into the pool. -/
theorem IsRp.turn (h : IsRp w p A c r) {r' : Cd} (hc : w'.heap[p]? = some (.cells #[.slice A r'.l.length c, .int .i64 r'.use] 65 (0, 0)))
    (hr : w'.ownsRow 0 62 6 (.slice A r'.l.length c) r'.l.length (nmv r'.l)) (hl : r'.l.length = r.l.length) (hp : ∀ x ∈ r'.l, -1 ≤ x.path) : IsRp w' p A c r' := ⟨hc, hr, by rw [hl]; exact h.small, hp⟩
theorem IsRp.setu (h : IsRp w p A c r) (q : Int) : IsRp (w.setCell ⟨p, 1, none⟩ (.int .i64 q)) p A c ⟨r.l, q⟩ ∧ Fr (OnB p A) w (w.setCell ⟨p, 1, none⟩ (.int .i64 q)) := by
  have F : Fr (fun j => j = p) w (w.setCell ⟨p, 1, none⟩ (.int .i64 q)) := (Fr.refl (fun j => j = p) w).setCell (p := ⟨p, 1, none⟩) (fun _ => rfl) _
  refine ⟨h.turn ?_ (own_fr h.row F (fun j hj e => ?_)) rfl h.path, F.mono (fun j hj _ => .inl hj)⟩
  · exact heap_setCell_same _ p 1 _ _ (.int .i64 q) h.cell
  · cases A with
    | none => cases hj
    | some a =>
      injection hj with hj
      rcases h.at with e2 | ⟨g, e2, e3, _⟩
      · cases e2
      · injection e2 with e2; subst e2; exact e3 (by rw [← e, ← hj])
theorem IsRp.setp {g : Nat} (h : IsRp w p (some ⟨g, 0, none⟩) c r) {k : Nat} (hk : k < r.l.length) (q : Int) (hq : -1 ≤ q) :
    IsRp ((w.setCell ⟨g, k * 6 + 4, none⟩ (.int .i64 q)).setCell ⟨p, 1, none⟩ (.int .i64 q)) p (some ⟨g, 0, none⟩) c ⟨r.l.set k { r.l[k] with path := q }, q⟩ ∧
      Fr (OnB p (some ⟨g, 0, none⟩)) w ((w.setCell ⟨g, k * 6 + 4, none⟩ (.int .i64 q)).setCell ⟨p, 1, none⟩ (.int .i64 q)) := by
  have hpg : p ≠ g := own_typed h.row h.cell rfl
  have F1 : Fr (fun j => j = g) w (w.setCell ⟨g, k * 6 + 4, none⟩ (.int .i64 q)) := (Fr.refl (fun j => j = g) w).setCell (p := ⟨g, k * 6 + 4, none⟩) (fun _ => rfl) _
  have o1 := (h.row.stored (k * 6 + 4) (.int .i64 q)).1
  rw [rv_set1 Nm.cells nmc r.l k 4 _ r.l[k] { r.l[k] with path := q } (List.getElem?_eq_getElem hk) (by omega) (nm_setp _ _)] at o1
  have hl : (r.l.set k { r.l[k] with path := q }).length = r.l.length := List.length_set
  have h1 : IsRp (w.setCell ⟨g, k * 6 + 4, none⟩ (.int .i64 q)) p (some ⟨g, 0, none⟩) c ⟨r.l.set k { r.l[k] with path := q }, r.use⟩ := by
    refine h.turn ?_ ?_ hl (fun x hx => ?_)
    · simp only [hl]; exact heap_fr h.cell F1 hpg
    · simp only [hl]; exact o1
    · rcases List.mem_or_eq_of_mem_set hx with e | e
      · exact h.path x e
      · rw [e]; exact hq
  obtain ⟨h2, F2⟩ := h1.setu q
  exact ⟨h2, (F1.mono (fun j hj _ => .inr ⟨_, rfl, hj.symm⟩)).trans F2⟩

/-- What For hands back. -/
def RFor (w : World) (p : Nat) (A : Option Addr) (c : Nat) (r : Cd) (q : Int) (e : Ending) (w' : World) : Prop :=
  (rpick r.l q = none ∧ e = .returned (.tuple #[.slice none 0 0, .bool false]) ∧ Still w w') ∨ ∃ x A2 c2, rpick r.l q = some x ∧ e = .returned (.tuple #[.slice A2 x.id.length c2, .bool true]) ∧ Rd w' A2 (bv x.id) ∧ IsRp w' p A c ⟨cset r.l x.seq q, q⟩ ∧ Fr (OnB p A) w w'
set_option maxRecDepth 100000 in
set_option maxHeartbeats 8000000 in
theorem rfor_any (h : IsRp w p A c r) (uq : r.l.Pairwise (fun a b => a.seq ≠ b.seq)) (q : Int) (hq : 0 ≤ q) : Calls Try.prog 17 #[.pointer (some ⟨p, 0, none⟩), .int .i64 q] w (RFor w p A c r q) := by
  have c0 := wrote_cell h.cell 0 _ rfl
  have c1 := wrote_cell h.cell 1 _ rfl
  have f1 := frozen_of_row w p 1 _ _ h.cell
  have hr := Lib.hid h.rd
  have hsm := h.small
  have hpt := Lib.hid h.path
  have HH := Lib.hid h
  obtain ⟨L, hL⟩ : ∃ L, r.l.length = L := ⟨_, rfl⟩
  rw [hL] at c0 hsm
  have b0 : decide (q < 0) = false := decide_eq_false (by omega)
  replace hL := Lib.hid hL
  replace uq := Lib.hid uq
  clear h
  go_enter Try.func17, Try.ntmps17
  go_wp2_with fail
  go_loopw [6, 7] (fun b i wr => ∃ (k q' : Nat) (bi : Int), k ≤ L ∧ b = .int .i64 bi ∧ i = .int .i64 k ∧ wr = w.drewN q' ∧ Hid (RB r.l k bi) ∧ Hid (∀ (j : Nat) (y : Nm), j < k → r.l[j]? = some y → y.path ≠ q)) (fun _ i _ => L - (intOf i).toNat)
  case atStart => exact ⟨0, 0, -1, by omega, rfl, rfl, rfl, Lib.hid (RB.zero _), Lib.hid (fun j y hj => absurd hj (by omega))⟩
  case round =>
    obtain ⟨k, q', bi, hk, rfl, rfl, rfl, HB, HT⟩ := hrel
    by_cases hkl : k < L
    · rename_i aa; clear aa
      have hkl2 : k < r.l.length := by rw [hL.out]; exact hkl
      have hpp := hpt.out _ (List.getElem_mem hkl2)
      obtain ⟨b, off, rfl, l0, l1, l2, l3, l4, l5⟩ := load_nm hr.out hkl2
      have hk0 : (0 : Int) ≤ (k : Int) := by omega
      have hki : (k : Int) < (L : Int) := by omega
      clear l2 l3 l5
      by_cases hpq : (r.l[k]).path = q
      · -- it has one
        have hfin : Hid (rpick r.l q = some r.l[k]) := Lib.hid (by
          unfold rpick
          have : r.l.find? (fun x => decide (x.path = q)) = some r.l[k] := List.find?_eq_some_iff_getElem.2 ⟨decide_eq_true hpq, k, hkl2, rfl, fun j hj => by
            have := HT.out j _ hj (List.getElem?_eq_getElem (by omega))
            simpa using this⟩
          rw [this]; rfl)
        have hcs : Hid (cset r.l (r.l[k]).seq q = r.l) := Lib.hid (by
          rw [cset_at uq.out hkl2, show ({ r.l[k] with path := q } : Nm) = r.l[k] by rw [← hpq]]
          exact List.set_getElem_self _)
        have d1 : ((r.l[k]).path == q) = true := beq_iff_eq.2 hpq
        have CV := fun W => conv_bytes W (r.l[k]).id
        obtain ⟨hS1, hS2⟩ := (HH.out.drewN q').setu q
        obtain ⟨W1, hW1⟩ : ∃ W1, (w.drewN q').setCell ⟨p, 1, none⟩ (.int .i64 q) = W1 := ⟨_, rfl⟩
        have hW1' : (w.setCell ⟨p, 1, none⟩ (.int .i64 q)).drewN q' = W1 := hW1
        rw [hW1] at hS1 hS2
        obtain ⟨cc, W2, cv, cb, cr⟩ := CV W1
        have g0 := wrote_cell hS1.cell 0 _ rfl
        simp only [hL.out] at g0
        obtain ⟨b', off', e', zz1, g1, zz2⟩ := load_nm hS1.rd (k := k) (by exact hkl2)
        injection e' with e'; injection e' with e1 e2
        subst e1 e2
        clear zz1 zz2
        obtain ⟨S, hS⟩ : ∃ S, sob (r.l[k]).id = S := ⟨_, rfl⟩
        obtain ⟨n8, hn8⟩ : ∃ n, (r.l[k]).id.length = n := ⟨_, rfl⟩
        have hres : Hid (∃ x A2 c2, rpick r.l q = some x ∧ Ending.returned (.tuple #[.slice (some ⟨W1.heap.size, 0, none⟩) n8 cc, .bool true]) = .returned (.tuple #[.slice A2 x.id.length c2, .bool true]) ∧ Rd W2 A2 (bv x.id) ∧ IsRp W2 p (some ⟨b, off, none⟩) c ⟨cset r.l x.seq q, q⟩ ∧ Fr (OnB p (some ⟨b, off, none⟩)) w W2) := Lib.hid ⟨r.l[k], _, cc, hfin.out, by rw [hn8], cr, by rw [hcs.out]; exact hS1.below cb, ((Still.drewN w q').fr _).trans (hS2.trans (Fr.of_below cb _))⟩
        rw [hS] at cv g1
        rw [hn8] at cv
        obtain ⟨pt, hpt2⟩ : ∃ z, (r.l[k]).path = z := ⟨_, rfl⟩
        rw [hpt2] at l4 d1
        replace hW1 := Lib.hid hW1
        replace hW1' := Lib.hid hW1'
        clear hpq hpp hS1 hS2 CV cb cr hS hn8 hcs hfin HT HB hkl2 hpt2 l0 l1
        go_upto_region 9 with fail
        first | rw [hW1'.out] | rw [hW1.out]
        clear hW1 hW1' c0 c1 l4
        go_wp2_with fail
        go_ret2
        obtain ⟨x, A2, c2, h1, h2, h3, h4, h5⟩ := hres.out
        exact .inr ⟨x, A2, c2, h1, h2, h3, h4, h5⟩
      · have HT2 : Hid (∀ (j : Nat) (y : Nm), j < k + 1 → r.l[j]? = some y → y.path ≠ q) := Lib.hid (fun j z hj hz => by
          rcases Nat.lt_or_ge j k with h | h
          · exact HT.out j z h hz
          · have : j = k := by omega
            subst this
            rw [List.getElem?_eq_getElem hkl2] at hz; injection hz with hz; rw [← hz]; exact hpq)
        have d1 : ((r.l[k]).path == q) = false := beq_eq_false_iff_ne.2 hpq
        clear HT hpq l1
        by_cases hfr : (r.l[k]).path = -1
        · have hf : (r.l[k]).free = true := by unfold Nm.free; exact decide_eq_true hfr
          have d2 : decide ((r.l[k]).path < 0) = true := decide_eq_true (by omega)
          rcases HB.out with ⟨hb1, hb2⟩ | ⟨j, hj, hjk, hb1, hb2⟩
          · subst hb1
            have HB2 := Lib.hid (HB.out.first hkl2 hf)
            obtain ⟨pt, hpt2⟩ : ∃ z, (r.l[k]).path = z := ⟨_, rfl⟩
            rw [hpt2] at l4 d1 d2
            clear hf hfr hpp hpt2 l0 hb2 HB hkl2
            go_wp2_with fail
            go_quiet (fail)
            go_wp2_with fail
            go_roundw
            case rel => exact ⟨k + 1, q' + nq, (k : Int), by omega, rfl, by go_num, rfl, HB2, HT2⟩
            case measure => simp [intOf] <;> omega
          · subst hb1
            obtain ⟨b', off', e', m0, _⟩ := load_nm hr.out hj
            injection e' with e'; injection e' with e1 e2
            subst e1 e2
            have hj0 : (0 : Int) ≤ (j : Int) := by omega
            have hji : (j : Int) < (L : Int) := by have := hL.out; omega
            have dj : decide ((j : Int) < 0) = false := decide_eq_false (by omega)
            by_cases hless : (r.l[k]).seq < (r.l[j]).seq
            · have HB2 := Lib.hid (HB.out.less hkl2 hj hf hless)
              have d3 : decide (((r.l[k]).seq : Int) < ((r.l[j]).seq : Int)) = true := decide_eq_true (by omega)
              have d3n : decide ((r.l[k]).seq < (r.l[j]).seq) = true := decide_eq_true hless
              obtain ⟨pt, hpt2⟩ : ∃ z, (r.l[k]).path = z := ⟨_, rfl⟩
              obtain ⟨sk, hsk⟩ : ∃ z, (r.l[k]).seq = z := ⟨_, rfl⟩
              obtain ⟨sj, hsj⟩ : ∃ z, (r.l[j]).seq = z := ⟨_, rfl⟩
              rw [hpt2] at l4 d1 d2
              rw [hsk] at l0 d3 d3n
              rw [hsj] at m0 d3 d3n
              clear hf hfr hpp hpt2 hsk hsj hless hb2 HB hkl2
              go_wp2_with fail
              go_quiet (fail)
              go_wp2_with fail
              go_roundw
              case rel => exact ⟨k + 1, q' + nq, (k : Int), by omega, rfl, by go_num, rfl, HB2, HT2⟩
              case measure => simp [intOf] <;> omega
            · have HB2 := Lib.hid (HB.out.more hkl2 hj hless)
              have d3 : decide (((r.l[k]).seq : Int) < ((r.l[j]).seq : Int)) = false := decide_eq_false (by omega)
              have d3n : decide ((r.l[k]).seq < (r.l[j]).seq) = false := decide_eq_false hless
              obtain ⟨pt, hpt2⟩ : ∃ z, (r.l[k]).path = z := ⟨_, rfl⟩
              obtain ⟨sk, hsk⟩ : ∃ z, (r.l[k]).seq = z := ⟨_, rfl⟩
              obtain ⟨sj, hsj⟩ : ∃ z, (r.l[j]).seq = z := ⟨_, rfl⟩
              rw [hpt2] at l4 d1 d2
              rw [hsk] at l0 d3 d3n
              rw [hsj] at m0 d3 d3n
              clear hf hfr hpp hpt2 hsk hsj hless hb2 HB hkl2
              go_wp2_with fail
              go_quiet (fail)
              go_wp2_with fail
              go_roundw
              case rel => exact ⟨k + 1, q' + nq, (j : Int), by omega, rfl, by go_num, rfl, HB2, HT2⟩
              case measure => simp [intOf] <;> omega
        · have hf : (r.l[k]).free = false := by unfold Nm.free; exact decide_eq_false hfr
          have HB2 := Lib.hid (HB.out.busy hkl2 hf)
          have d2 : decide ((r.l[k]).path < 0) = false := decide_eq_false (by omega)
          obtain ⟨pt, hpt2⟩ : ∃ z, (r.l[k]).path = z := ⟨_, rfl⟩
          rw [hpt2] at l4 d1 d2
          clear hf hfr hpp hpt2 l0 HB hkl2
          go_wp2_with fail
          go_quiet (fail)
          go_wp2_with fail
          go_roundw
          case rel => exact ⟨k + 1, q' + nq, bi, by omega, rfl, by go_num, rfl, HB2, HT2⟩
          case measure => simp [intOf] <;> omega
    · obtain rfl : k = L := by omega
      have hfind : r.l.find? (fun x => decide (x.path = q)) = none := by
        rw [List.find?_eq_none]
        intro x hx
        obtain ⟨j, hj, rfl⟩ := List.getElem_of_mem hx
        have := HT.out j _ (by rw [← hL.out]; exact hj) (List.getElem?_eq_getElem hj)
        simpa using this
      have htk : r.l.take k = r.l := List.take_of_length_le (by rw [hL.out]; exact Nat.le_refl _)
      rcases HB.out with ⟨hb1, hb2⟩ | ⟨j, hj, hjk, hb1, hb2⟩
      · subst hb1
        have hfin : Hid (rpick r.l q = none) := Lib.hid (by unfold rpick; rw [hfind]; rw [htk] at hb2; rw [hb2]; rfl)
        clear hfind htk hb2 HB HT
        go_wp2_with fail
        go_ret2
        exact .inl ⟨hfin.out, rfl, Still.drewN w q'⟩
      · subst hb1
        have hfin : Hid (rpick r.l q = some r.l[j]) := Lib.hid (by unfold rpick; rw [hfind]; rw [htk] at hb2; rw [hb2]; rfl)
        have hcs := cset_at uq.out hj q
        obtain ⟨g, rfl, hpg, hgl⟩ := HH.out.blk (by omega)
        have hj0 : (0 : Int) ≤ (j : Int) := by omega
        have hji : (j : Int) < (k : Int) := by omega
        have dj : decide ((j : Int) < 0) = false := decide_eq_false (by omega)
        have hrow : w.ownsRow 0 62 6 (.slice (some ⟨g, 0, none⟩) r.l.length c) r.l.length (nmv r.l) := HH.out.row
        have fg : w.frozen? ⟨g, j * 6 + 4, none⟩ = false := hrow.frozenAt _
        obtain ⟨b', off', e', _, _, _, _, l4, _⟩ := load_nm hr.out hj
        injection e' with e'; injection e' with e1 e2
        subst e1 e2
        rw [Nat.zero_add] at l4
        have CV := fun W => conv_bytes W (r.l[j]).id
        obtain ⟨hS1, hS2⟩ := (HH.out.drewN q').setp hj q (by omega)
        obtain ⟨W1, hW1⟩ : ∃ W1, ((w.drewN q').setCell ⟨g, j * 6 + 4, none⟩ (.int .i64 q)).setCell ⟨p, 1, none⟩ (.int .i64 q) = W1 := ⟨_, rfl⟩
        have hW1' : ((w.setCell ⟨g, j * 6 + 4, none⟩ (.int .i64 q)).setCell ⟨p, 1, none⟩ (.int .i64 q)).drewN q' = W1 := hW1
        rw [hW1] at hS1 hS2
        obtain ⟨cc, W2, cv, cb, cr⟩ := CV W1
        have g0 := wrote_cell hS1.cell 0 _ rfl
        simp only [List.length_set, hL.out] at g0
        have hj2 : j < (r.l.set j { r.l[j] with path := q }).length := by rw [List.length_set]; exact hj
        obtain ⟨b', off', e', zz1, g1, zz2⟩ := load_nm (l := r.l.set j { r.l[j] with path := q }) hS1.rd (k := j) hj2
        injection e' with e'; injection e' with e1 e2
        subst e1 e2
        clear zz1 zz2
        rw [List.getElem_set_self, Nat.zero_add] at g1
        replace g1 : W1.cell? ⟨g, j * 6 + 1, none⟩ = some (.string (sob (r.l[j]).id)) := g1
        obtain ⟨S, hS⟩ : ∃ S, sob (r.l[j]).id = S := ⟨_, rfl⟩
        obtain ⟨n8, hn8⟩ : ∃ n, (r.l[j]).id.length = n := ⟨_, rfl⟩
        have hres : Hid (∃ x A2 c2, rpick r.l q = some x ∧ Ending.returned (.tuple #[.slice (some ⟨W1.heap.size, 0, none⟩) n8 cc, .bool true]) = .returned (.tuple #[.slice A2 x.id.length c2, .bool true]) ∧ Rd W2 A2 (bv x.id) ∧ IsRp W2 p (some ⟨g, 0, none⟩) c ⟨cset r.l x.seq q, q⟩ ∧ Fr (OnB p (some ⟨g, 0, none⟩)) w W2) := Lib.hid ⟨r.l[j], _, cc, hfin.out, by rw [hn8], cr, by rw [hcs]; exact hS1.below cb, ((Still.drewN w q').fr _).trans (hS2.trans (Fr.of_below cb _))⟩
        rw [hS] at cv g1
        rw [hn8] at cv
        obtain ⟨pt, hpt2⟩ : ∃ z, (r.l[j]).path = z := ⟨_, rfl⟩
        rw [hpt2] at l4
        replace hW1 := Lib.hid hW1
        replace hW1' := Lib.hid hW1'
        replace hpg := Lib.hid hpg
        clear hfind htk hb2 HB HT hcs hS1 hS2 CV cb cr hS hn8 hfin hpt2 hrow hj2
        go_upto_region 15 with fail
        first | rw [hW1'.out] | rw [hW1.out]
        clear hW1 hW1' c0 c1 l4
        go_wp2_with fail

        go_ret2
        obtain ⟨x, A2, c2, h1, h2, h3, h4, h5⟩ := hres.out
        exact .inr ⟨x, A2, c2, h1, h2, h3, h4, h5⟩
set_option maxHeartbeats 1000000 in
theorem rfor_neg (q : Int) (hq : q < 0) (w : World) : Calls Try.prog 17 #[.pointer (some ⟨p, 0, none⟩), .int .i64 q] w fun e w' => e = .returned (.tuple #[.slice none 0 0, .bool false]) ∧ w = w' := by
  have b0 : decide (q < 0) = true := decide_eq_true hq
  go_enter Try.func17, Try.ntmps17
  go_wp2_with fail
  go_ret2
  exact ⟨rfl, rfl⟩
end
end Go.Proofs.Ytgmanhbfdjlhbaa
