/- ranges: slices.DeleteFunc where what goes is the end; Below. -/
import Derived.Test.YtdhdnpagdflgpaaRgG
namespace Go.Proofs.Ytdhdnpagdflgpaa
open Go.RowKit

section
variable {P : Program}
/-- 'clear(s)', s a slice of m records. -/
theorem run_clear_recs (w : World) (t e : TypeId) (z : Value) (size m : Nat) (hm : 0 < m) (ht : P.underlying t = some (.slice e)) (hv : ∀ w, (zeroValue e).run P w = .ok z w) (hz : z.cells.size = size) (hs : 0 < size) (h1 : ∀ u ∈ z.cells.toList, u.oneCell' = true) (b o : Nat)
    (hc : ∀ j, j < m * size → (w.cell? ⟨b, o + j, none⟩).isSome = true) (hf : ∀ j, j < m * size → w.frozen? ⟨b, o + j, none⟩ = false) :
    ∃ zs : List Value, zs.length = m * size ∧ ∀ ty c, (Builtin.clear_ #[t] ty #[.slice (some ⟨b, o, none⟩) m c]).run P w = .ok (.tuple #[]) (w.setCells b o zs) := by
  have hl : (Builtin.zeroCells z.cells m).toList.length = m * size := by unfold Builtin.zeroCells; simp [hz]
  have hone : ∀ v ∈ (Builtin.zeroCells z.cells m).toList, v.oneCell' = true := by
    intro v hv'
    unfold Builtin.zeroCells at hv'
    simp only [Array.toList_map, Array.toList_range, List.mem_map] at hv'
    obtain ⟨i, _, rfl⟩ := hv'
    have hlt : i % z.cells.size < z.cells.size := Nat.mod_lt _ (by omega)
    have e : z.cells[i % z.cells.size]! = z.cells[i % z.cells.size]'hlt := getElem!_pos z.cells _ hlt
    rw [e]
    exact h1 _ (by simp)
  have hst := run_storeCells_cells (P := P) b o (Builtin.zeroCells z.cells m).toList 0 w (by rw [hl]; simpa using hc) (by rw [hl]; simpa using hf) hone
  simp only [Nat.add_zero] at hst
  refine ⟨_, hl, fun ty c => ?_⟩
  obtain ⟨k, rfl⟩ : ∃ k, m = k + 1 := ⟨m - 1, by omega⟩
  simp [Builtin.clear_, run_underlying ht, hv, hst]
end

set_option maxRecDepth 100000 in
set_option maxHeartbeats 4000000 in
theorem delf_no (l : List Rg) (A : Option Addr) (c : Nat) (g : Nat) (lb : Array Value) (q : Rg → Bool) (w : World) (eg : Ent g) (hr : Rd w A (rgv l)) (hl : l.length ≤ 1000000) (hno : fidx q l = -1)
    (hq : ∀ W x, Below w.heap.size w W → x ∈ l → Calls Try.prog g (#[x.agg] ++ lb) W fun e w' => e = .returned (.bool (q x)) ∧ Below w.heap.size w w') :
    Calls Try.prog 28 #[.slice A l.length c, .func (.func g) #[] lb] w fun e w' => e = .returned (.slice A l.length c) ∧ Below w.heap.size w w' := by
  have CI := Lib.hid (idxr_any l A c g lb q w eg hr hl hq)
  rw [hno] at CI
  clear hq hr hno
  go_enter Try.func28, Try.ntmps28
  go_wp2_with fail
  refine CI.out.mono ?_
  rintro e w' ⟨rfl, hb⟩
  replace hb := Lib.hid hb
  clear CI
  go_wp2_with fail
  go_ret
  exact ⟨rfl, hb.out⟩

set_option maxRecDepth 100000 in
set_option maxHeartbeats 4000000 in
theorem delf_tail (l : List Rg) (gb c i : Nat) (g : Nat) (lb : Array Value) (q : Rg → Bool) (w : World) (eg : Ent g) (hown : w.ownsRow 0 33 2 (.slice (some ⟨gb, 0, none⟩) l.length c) l.length (rgv l)) (hl : l.length ≤ 1000000) (hi : fidx q l = i) (hil : i < l.length) (hall : ∀ j y, i ≤ j → l[j]? = some y → q y = true)
    (hq : ∀ W x, Below w.heap.size w W → x ∈ l → Calls Try.prog g (#[x.agg] ++ lb) W fun e w' => e = .returned (.bool (q x)) ∧ Below w.heap.size w w') :
    Calls Try.prog 28 #[.slice (some ⟨gb, 0, none⟩) l.length c, .func (.func g) #[] lb] w fun e w' => e = .returned (.slice (some ⟨gb, 0, none⟩) i c) ∧ w'.ownsRow 0 33 2 (.slice (some ⟨gb, 0, none⟩) i c) i (rgv (l.take i)) ∧ Fr (fun j => j = gb) w w' := by
  have EG : ∀ (args : Array Value) (w : World), (callFunc g args).run Try.prog w = .ok (.enter g args) w := eg
  have hr : Rd w (some ⟨gb, 0, none⟩) (rgv l) := Rd.of_ownS hown
  have CI := Lib.hid (idxr_any l _ c g lb q w eg hr hl hq)
  rw [hi] at CI
  obtain ⟨i0, hi0, hz0, hz1, hz2⟩ := info_parts infoR
  obtain ⟨A0, c0, hA0, hnc, hcm⟩ := own_shape w hown
  injection hA0 with hA1 hA2 hA3
  subst hA3
  clear hA1 hA2
  simp only [maxLen] at hcm
  replace hq := Lib.hid hq
  replace hall := Lib.hid hall
  obtain ⟨n, hn⟩ : ∃ n, l.length = n := ⟨_, rfl⟩
  have HO := Lib.hid hown
  rw [hn] at CI hnc hl hil ⊢
  replace hn := Lib.hid hn
  replace hr := Lib.hid hr
  obtain ⟨m, hm⟩ : ∃ m, i + m = n := ⟨n - i, by omega⟩
  have hm0 : 0 < m := by omega
  have HS1 := cutS_l (P := Try.prog) Try.underlying30 infoR (some ⟨gb, 0, none⟩) n c i m (i : Int) rfl (by omega) (by omega)
  rw [if_neg (by omega), show (some (⟨gb, 0, none⟩ : Addr)).map (·.add (i * 2)) = some ⟨gb, i * 2, none⟩ from by simp [WideShapes.add_plain]] at HS1
  have HS2 := cutS_h (P := Try.prog) Try.underlying30 infoR (some ⟨gb, 0, none⟩) n c i (i : Int) rfl (by omega)
  have hz : ∀ w, (zeroValue 33).run Try.prog w = .ok (.agg #[.int .u64 0, .int .u64 0]) w := fun w => by
    simp [zeroValue, typeInfo, hi0, hz0]
  replace hz := Lib.hid hz
  replace hm := Lib.hid hm
  have hni : ((i : Int) == -1) = false := beq_eq_false_iff_ne.2 (by omega)
  clear hown hi hi0 hz0 hz1 hz2
  go_enter Try.func28, Try.ntmps28
  go_wp2_with fail
  refine CI.out.mono ?_
  rintro e w1 ⟨rfl, hb⟩
  replace hb := Lib.hid hb
  clear CI
  go_wp2_with fail
  go_loopw [5, 6] (fun u j wr => ∃ k : Nat, i < k ∧ k ≤ n ∧ u = .int .i64 i ∧ j = .int .i64 k ∧ Hid (Below w.heap.size w wr)) (fun _ j _ => n - (intOf j).toNat)
  case atStart => exact ⟨i + 1, by omega, by omega, rfl, by go_num, hb⟩
  case round =>
    clear hb
    obtain ⟨k, hik, hk, rfl, rfl, HB⟩ := hrel
    by_cases hkn : k < n
    · rename_i aa; clear aa
      have hkl : k < l.length := by rw [hn.out]; exact hkn
      obtain ⟨b, off, hA, l0, l1⟩ := load_rg (hr.out.fr (Fr.of_below HB.out NoS) (fun _ _ _ x => x)) hkl
      injection hA with hA
      injection hA with hA1 hA2
      subst hA1 hA2
      simp only [Nat.zero_add] at l0 l1
      have hcall := fun o => hq.out (wr.alloc o) l[k] (HB.out.trans (((Below.refl _ wr).alloc (Nat.le_refl _) o).mono HB.out.size)) (List.getElem_mem hkl)
      have hqy := hall.out k _ (by omega) (List.getElem?_eq_getElem hkl)
      obtain ⟨y, hy⟩ : ∃ y, l[k] = y := ⟨_, rfl⟩
      rw [hy] at l0 l1 hcall hqy
      rw [hqy] at hcall
      clear hy hqy
      unfold Rg.agg at hcall
      go_wp2_with (go_at_fn g; refine (hcall _).mono ?_; rintro e w' ⟨rfl, hb'⟩)
      go_roundw
      case rel => exact ⟨k + 1, by omega, by omega, rfl, by go_num, Lib.hid hb'⟩
      case measure => simp [intOf]; omega
    · have o1 := own_fr HO.out (Fr.of_below HB.out NoS) (fun _ _ x => x)
      have hl2 : (rgv l).length = n * 2 := by rw [rgv_len, hn.out]
      rw [hn.out] at o1
      obtain ⟨zs, hzl, hcl⟩ := run_clear_recs (P := Try.prog) wr 30 33 _ 2 m (by omega) Try.underlying30 hz.out rfl (by decide) (by intro u hu; simp [Value.cells] at hu; subst hu; rfl) gb (i * 2) (fun j hj => by
        have := hm.out
        rw [o1.cellAt _ (by omega), List.getElem?_eq_getElem (by omega)]; rfl) (fun j _ => o1.frozenAt _)
      obtain ⟨o2, F2⟩ := own_setCells zs (i * 2) wr (rgv l) o1 (by have := hm.out; omega)
      have o3 := own_cut o2 (m := i) (by omega)
      rw [List.append_assoc, List.take_append_of_le_length (by rw [List.length_take, hl2]; omega), List.take_take, Nat.min_self, ← rgv_take] at o3
      have FW : Hid (Fr (fun j => j = gb) w (wr.setCells gb (i * 2) zs)) := Lib.hid ((Fr.of_below HB.out _).trans F2)
      obtain ⟨W2, hW2⟩ : ∃ W2, wr.setCells gb (i * 2) zs = W2 := ⟨_, rfl⟩
      rw [hW2] at hcl o3 FW
      replace o3 := Lib.hid o3
      clear hW2 o2 F2 o1 hzl
      go_wp2_with fail
      go_ret
      exact ⟨rfl, o3.out, FW.out⟩

theorem below1_any (r : Rg) (n X : Nat) (w : World) (hX : w.cell? ⟨X, 0, none⟩ = some (.int .u64 n)) :
    Calls Try.prog 29 (#[r.agg] ++ #[.pointer (some ⟨X, 0, none⟩)]) w fun e w' => e = .returned (.bool (decide (r.hi < n))) ∧ Below w.heap.size w w' := by
  unfold Rg.agg
  show Calls Try.prog 29 #[.agg #[.int .u64 r.lo, .int .u64 r.hi], .pointer (some ⟨X, 0, none⟩)] w _
  have g1 : ∀ o, (w.alloc o).cell? ⟨X, 0, none⟩ = some (.int .u64 n) := fun o => Lib.cell?_alloc_some o hX
  rw [← dec_natlt]
  obtain ⟨lo, hlo⟩ : ∃ x : Int, (r.lo : Int) = x := ⟨_, rfl⟩
  obtain ⟨hi, hhi⟩ : ∃ x : Int, (r.hi : Int) = x := ⟨_, rfl⟩
  obtain ⟨N, hN⟩ : ∃ x : Int, (n : Int) = x := ⟨_, rfl⟩
  rw [hlo, hhi, hN]
  rw [hN] at g1
  clear hlo hhi hN hX
  go_enter Try.func29, Try.ntmps29
  go_wp2_with fail
  go_ret
  exact ⟨rfl, (Below.refl _ w).alloc (Nat.le_refl _) _⟩
theorem ent_below : Ent 29 := enters_of Try.func29 (by kernel_rfl) rfl
/-- Of falling ranges those that go are the end. -/
theorem rat_filter {l : List Rg} (h : Rok l) (n : Nat) : l.filter (fun r => !decide (r.hi < n)) = l.take (rat l n) ∧ ∀ j y, rat l n ≤ j → l[j]? = some y → y.hi < n := by
  induction l with
  | nil => exact ⟨rfl, by simp⟩
  | cons a l ih =>
    obtain ⟨h1, h2, h3⟩ := h.cons
    obtain ⟨i1, i2⟩ := ih h3
    by_cases ha : a.hi < n
    · have hall : ∀ r ∈ a :: l, r.hi < n := by
        intro r hr
        rcases List.mem_cons.1 hr with rfl | hr
        · exact ha
        · have := h2 r hr; have := h3.le r hr; omega
      have h0 : rat (a :: l) n = 0 := by unfold rat; rw [List.takeWhile_cons_of_neg (by simp [ha])]; rfl
      rw [h0]
      refine ⟨?_, fun j y _ hy => hall y (List.mem_of_getElem? hy)⟩
      rw [List.take_zero, List.filter_eq_nil_iff]
      intro r hr
      simpa using hall r hr
    · have h0 : rat (a :: l) n = rat l n + 1 := by unfold rat; rw [List.takeWhile_cons_of_pos (by simpa using ha)]; rfl
      rw [h0, List.filter_cons_of_pos (by simpa using ha), List.take_succ_cons, i1]
      refine ⟨rfl, fun j y hj hy => ?_⟩
      obtain ⟨j', rfl⟩ : ∃ j', j = j' + 1 := ⟨j - 1, by omega⟩
      exact i2 j' y (by omega) (by simpa using hy)
theorem rlow_last (l : List Rg) (n : Nat) : rlow l n = match l.getLast? with | none => [] | some r => l.dropLast ++ [⟨max r.lo n, r.hi⟩] := by
  induction l with
  | nil => rfl
  | cons a l ih =>
    cases l with
    | nil => rfl
    | cons b l =>
      rw [rlow, ih]
      rw [List.getLast?_cons_cons]
      rcases hg : (b :: l).getLast? with _ | r
      · simp at hg
      · rfl
end Go.Proofs.Ytdhdnpagdflgpaa
