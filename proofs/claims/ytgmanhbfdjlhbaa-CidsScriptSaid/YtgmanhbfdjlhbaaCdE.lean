/- cids: For. -/
import Derived.Test.YtgmanhbfdjlhbaaCdD
namespace Go.Proofs.Ytgmanhbfdjlhbaa
open Go.RowKit

section
variable {w w' : World} {p : Nat} {A : Option Addr} {c : Nat} {l : List Nx} {use : Int}
set_option maxHeartbeats 4000000 in
theorem idx1_any (h : IsCd w p A c l use) (q : Int) (L : Nat) (hL : l.length = L) (o : TypeId) : Calls Try.prog 32 #[.slice A L c, .func (.func 33) #[] #[.pointer (some ⟨w.heap.size, 0, none⟩)]] (w.alloc (.cells #[.int .i64 q] o))
    fun e w' => e = .returned (.int .i64 (fidx (fun n => decide (n.x.path = q)) l)) ∧ Below w.heap.size w w' ∧ w'.cell? ⟨w.heap.size, 0, none⟩ = some (.int .i64 q) := by
  have hX : (w.alloc (.cells #[.int .i64 q] o)).cell? ⟨w.heap.size, 0, none⟩ = some (.int .i64 q) := by rw [World.cell?_alloc_new]; rfl
  have ha := h.alloc (.cells #[.int .i64 q] o)
  refine (idxc_any l A L c _ _ (fun n => decide (n.x.path = q)) _ ent_for1 hL ha.rd (by have := h.small; omega) (fun W x hb hx => ?_)).mono ?_
  · refine (for1_any x q w.heap.size W ((hb.cell (by simp)).trans hX)).mono ?_
    rintro e w' ⟨rfl, hb2⟩
    exact ⟨rfl, hb.trans (hb2.mono hb.size)⟩
  · rintro e w' ⟨rfl, hb⟩
    exact ⟨rfl, ((Below.refl _ w).alloc (Nat.le_refl _) _).trans (hb.mono (by simp)), (hb.cell (by simp)).trans hX⟩
theorem idx2_any (h : IsCd w p A c l use) (L : Nat) (hL : l.length = L) : Calls Try.prog 32 #[.slice A L c, .func (.func 34) #[] #[]] w
    fun e w' => e = .returned (.int .i64 (fidx (fun n => n.x.free) l)) ∧ Below w.heap.size w w' := by
  refine idxc_any l A L c _ _ (fun n => n.x.free) _ ent_for2 hL h.rd (by have := h.small; omega) (fun W x hb hx => ?_)
  refine (for2_any x W).mono ?_
  rintro e w' ⟨rfl, hb2⟩
  exact ⟨rfl, hb.trans (hb2.mono hb.size)⟩

set_option maxRecDepth 100000 in
set_option maxHeartbeats 4000000 in
theorem cfor_no (h : IsCd w p A c l use) (q : Int) (hq : q < 0 ∨ cat l q = -1) : Calls Try.prog 16 #[.pointer (some ⟨p, 0, none⟩), .int .i64 q] w fun e w' =>
    e = .returned (.tuple #[.slice none 0 0, .bool false]) ∧ Below w.heap.size w w' := by
  have hmf := mkfn
  have hX : ∀ m, (w.alloc (.cells #[.int .i64 q] m)).cell? ⟨w.heap.size, 0, none⟩ = some (.int .i64 q) := fun m => by rw [World.cell?_alloc_new]; rfl
  have hbl : Hid (∀ o, Below w.heap.size w (w.alloc o)) := Lib.hid (fun o => (Below.refl _ w).alloc (Nat.le_refl _) o)
  by_cases h0 : q < 0
  · have b1 : decide (q < 0) = true := decide_eq_true h0
    clear h0 h hq
    go_enter Try.func16, Try.ntmps16
    go_wp2_with fail
    go_ret2
    exact ⟨rfl, hbl.out _⟩
  · have b1 : decide (q < 0) = false := decide_eq_false h0
    have hc : cat l q = -1 := by
      rcases hq with h1 | h1
      · exact absurd h1 h0
      · exact h1
    have c0 := fun o => wrote_cell (h.alloc o).cell 0 _ rfl
    have d0 : ∀ W, Below w.heap.size w W → W.cell? ⟨p, 0, none⟩ = some (.slice A l.length c) := fun W hb => wrote_cell (h.below hb).cell 0 _ rfl
    have H := Lib.hid h
    obtain ⟨L, hL⟩ : ∃ L, l.length = L := ⟨_, rfl⟩
    have CI := Lib.hid (fun o => idx1_any h q L hL o)
    have CJ := Lib.hid (fun W (hb : Below w.heap.size w W) => idx2_any (h.below hb) L hL)
    unfold cat at hc
    obtain ⟨i1, hi1⟩ : ∃ i, fidx (fun n => decide (n.x.path = q)) l = i := ⟨_, rfl⟩
    obtain ⟨i2, hi2⟩ : ∃ i, fidx (fun n : Nx => n.x.free) l = i := ⟨_, rfl⟩
    rw [hi1] at CI hc
    rw [hi2] at CJ hc
    have h1 : i1 < 0 := by
      by_cases e : i1 < 0
      · exact e
      · rw [if_neg e] at hc; omega
    rw [if_pos h1] at hc
    subst hc
    have b2 : decide (i1 < 0) = true := decide_eq_true h1
    rw [hL] at c0 d0
    replace d0 := Lib.hid d0
    clear h hi1 hi2 hL h0 h1 hq
    go_enter Try.func16, Try.ntmps16
    go_wp2_with fail
    refine (CI.out _).mono ?_
    rintro e w1 ⟨rfl, hb1, hX1⟩
    have C2 := Lib.hid (CJ.out w1 hb1)
    have z0 := d0.out w1 hb1
    replace hb1 := Lib.hid hb1
    clear CI CJ hX c0
    go_wp2_with fail
    refine C2.out.mono ?_
    rintro e w2 ⟨rfl, hb2⟩
    replace hb2 := Lib.hid hb2
    clear C2
    go_wp2_with fail
    go_ret2
    exact ⟨rfl, hb1.out.trans (hb2.out.mono hb1.out.size)⟩

set_option maxRecDepth 100000 in
set_option maxHeartbeats 8000000 in
theorem cfor_yes (h : IsCd w p A c l use) (q : Int) (h0 : 0 ≤ q) (k : Nat) (hk : cat l q = k) (hkl : k < l.length) : Calls Try.prog 16 #[.pointer (some ⟨p, 0, none⟩), .int .i64 q] w fun e w' =>
    ∃ A2 c2, e = .returned (.tuple #[.slice A2 8 c2, .bool true]) ∧ w'.ownsRow w.heap.size 5 1 (.slice A2 8 c2) 8 (bv (l[k]).x.id) ∧ IsCd w' p A c (l.set k (nxp l[k] q)) q ∧ Fr (OnB p A) w w' := by
  have hmf := mkfn
  have hX : ∀ m, (w.alloc (.cells #[.int .i64 q] m)).cell? ⟨w.heap.size, 0, none⟩ = some (.int .i64 q) := fun m => by rw [World.cell?_alloc_new]; rfl
  have b1 : decide (q < 0) = false := decide_eq_false (by omega)
  obtain ⟨g, rfl, hpg, hgl⟩ := h.blk (by omega)
  have c0 := fun o => wrote_cell (h.alloc o).cell 0 _ rfl
  have hids := h.ids _ (List.getElem_mem hkl)
  have hsm := h.small
  obtain ⟨L, hL⟩ : ∃ L, l.length = L := ⟨_, rfl⟩
  -- what holds in each world behind the looks
  have HW : Hid (∀ W, Below w.heap.size w W → W.cell? ⟨p, 0, none⟩ = some (.slice (some ⟨g, 0, none⟩) L c) ∧ W.cell? ⟨g, k * 12 + 10, none⟩ = some (.int .i64 (l[k]).x.path) ∧ W.frozen? ⟨g, k * 12 + 10, none⟩ = false ∧ W.cell? ⟨p, 1, none⟩ = some (.int .i64 use) ∧ W.frozen? ⟨p, 1, none⟩ = false ∧
      (∀ W3, W3 = ((W.setCell ⟨g, k * 12 + 10, none⟩ (.int .i64 q)).setCell ⟨p, 1, none⟩ (.int .i64 q)).drew → W3.cell? ⟨p, 0, none⟩ = some (.slice (some ⟨g, 0, none⟩) L c) ∧
        Calls Try.prog 27 #[.slice (some ⟨g, k * 12 + 1, none⟩) 8 8] W3 fun e w' => ∃ A2 c2, e = .returned (.slice A2 8 c2) ∧ w'.ownsRow w.heap.size 5 1 (.slice A2 8 c2) 8 (bv (l[k]).x.id) ∧ IsCd w' p (some ⟨g, 0, none⟩) c (l.set k (nxp l[k] q)) q ∧ Fr (OnB p (some ⟨g, 0, none⟩)) w w')) := Lib.hid (fun W hb => by
    have I := h.below hb
    have o : W.ownsRow 0 57 12 (.slice (some ⟨g, 0, none⟩) l.length c) l.length (nxv l) := I.row
    refine ⟨by rw [← hL]; exact wrote_cell I.cell 0 _ rfl, ?_, o.frozenAt _, wrote_cell I.cell 1 _ rfl, frozen_of_row W p 1 _ _ I.cell, fun W3 e3 => ?_⟩
    · rw [o.cellAt _ (by omega)]
      obtain ⟨x0, x1, x2, x3, x4, x5, x6, x7, hc⟩ := nx12 l[k]
      exact rv_get Nx.cells nxc l k l[k] (List.getElem?_eq_getElem hkl) 10 _ (by rw [hc]; rfl)
    · obtain ⟨J0, F0⟩ := I.setp hkl q
      have J : IsCd W3 p (some ⟨g, 0, none⟩) c (l.set k (nxp l[k] q)) q := by rw [e3]; exact J0.drewN 1
      have F : Fr (OnB p (some ⟨g, 0, none⟩)) w W3 := by rw [e3]; exact (Fr.of_below hb _).trans (F0.drewN 1)
      have hkl2 : k < (l.set k (nxp l[k] q)).length := by rw [List.length_set]; exact hkl
      refine ⟨?_, ?_⟩
      · have := wrote_cell J.cell 0 _ rfl
        rw [this]
        simp [hL]
      · obtain ⟨b, off, e, hr⟩ := J.idrd hkl2
        injection e with e; injection e with e1 e2
        subst e1 e2
        rw [List.getElem_set_self, Nat.zero_add] at hr
        refine (clone_to (l[k]).x.id 8 (some ⟨g, k * 12 + 1, none⟩) 8 W3 hids hr (fun e => by cases e) (by omega)).mono ?_
        rintro e w' ⟨A2, c2, rfl, o2, b2⟩
        exact ⟨A2, c2, rfl, own_base o2 (fun j hj => by have := (o2.lt j hj).1; have := F.size; omega), J.below b2, F.trans (Fr.of_below b2 _)⟩)
  have CI := Lib.hid (fun o => idx1_any h q L hL o)
  have CJ := Lib.hid (fun W (hb : Below w.heap.size w W) => idx2_any (h.below hb) L hL)
  unfold cat at hk
  obtain ⟨i1, hi1⟩ : ∃ i, fidx (fun n => decide (n.x.path = q)) l = i := ⟨_, rfl⟩
  obtain ⟨i2, hi2⟩ : ∃ i, fidx (fun n : Nx => n.x.free) l = i := ⟨_, rfl⟩
  rw [hi1] at CI hk
  rw [hi2] at CJ hk
  obtain ⟨ids, hids2⟩ : ∃ ids, (l[k]).x.id = ids := ⟨_, rfl⟩
  obtain ⟨pth, hpth⟩ : ∃ pth, (l[k]).x.path = pth := ⟨_, rfl⟩
  obtain ⟨l', hl'⟩ : ∃ l', l.set k (nxp l[k] q) = l' := ⟨_, rfl⟩
  rw [hids2, hpth, hl'] at HW
  rw [hids2, hl']
  rw [hL] at c0 hkl hsm
  have hk0 : (0 : Int) ≤ (k : Int) := by omega
  have hk1 : (k : Int) < (L : Int) := by omega
  have hk2 : ¬ (k : Int) < 0 := by omega
  have b4 : decide ((k : Int) < 0) = false := decide_eq_false hk2
  have hks : k ≤ 100 := by omega
  replace hpg := Lib.hid hpg
  clear h hi1 hi2 hL hids hids2 hpth hl' h0 hgl
  by_cases h1 : i1 < 0
  · have b2 : decide (i1 < 0) = true := decide_eq_true h1
    rw [if_pos h1] at hk
    subst hk
    clear h1
    go_enter Try.func16, Try.ntmps16
    go_wp2_with fail
    refine (CI.out _).mono ?_
    rintro e w1 ⟨rfl, hb1, hX1⟩
    have C2 := Lib.hid (CJ.out w1 hb1)
    have z0 := (HW.out w1 hb1).1
    have hXl := World.block_lt_of_cell? w1 _ hX1
    simp only at hXl
    replace hb1 := Lib.hid hb1
    replace hX1 := Lib.hid hX1
    clear CI CJ hX c0
    go_wp2_with fail
    refine C2.out.mono ?_
    rintro e w2 ⟨rfl, hb2⟩
    have hX2 := (hb2.cell (p := ⟨w.heap.size, 0, none⟩) hXl).trans hX1.out
    obtain ⟨z1, z2, z3, z4, z5, z6⟩ := HW.out w2 (hb1.out.trans (hb2.mono hb1.out.size))
    replace z6 := Lib.hid z6
    clear C2 z0 hb2 hX1 hb1 HW hXl
    go_wp2_with fail
    go_region
    obtain ⟨W3, hW3⟩ : ∃ W3, ((w2.setCell ⟨g, k * 12 + 10, none⟩ (.int .i64 q)).setCell ⟨p, 1, none⟩ (.int .i64 q)).drew = W3 := ⟨_, rfl⟩
    rw [hW3]
    obtain ⟨y1, y2⟩ := z6.out W3 hW3.symm
    replace y2 := Lib.hid y2
    clear z1 z2 z3 z4 z5 z6 hW3 hX2
    go_wp2_with fail
    refine y2.out.mono ?_
    rintro e w4 ⟨A2, c2, rfl, o2, I2, F2⟩
    replace o2 := Lib.hid o2
    replace I2 := Lib.hid I2
    replace F2 := Lib.hid F2
    clear y2
    go_wp2_with fail
    go_ret2
    exact ⟨A2, c2, rfl, o2.out, I2.out, F2.out⟩
  · have b2 : decide (i1 < 0) = false := decide_eq_false h1
    rw [if_neg h1] at hk
    subst hk
    clear h1 CJ
    go_enter Try.func16, Try.ntmps16
    go_wp2_with fail
    refine (CI.out _).mono ?_
    rintro e w2 ⟨rfl, hb2, hX2⟩
    obtain ⟨z1, z2, z3, z4, z5, z6⟩ := HW.out w2 hb2
    replace z6 := Lib.hid z6
    clear CI hX c0 HW hb2
    go_wp2_with fail
    go_region
    obtain ⟨W3, hW3⟩ : ∃ W3, ((w2.setCell ⟨g, k * 12 + 10, none⟩ (.int .i64 q)).setCell ⟨p, 1, none⟩ (.int .i64 q)).drew = W3 := ⟨_, rfl⟩
    rw [hW3]
    obtain ⟨y1, y2⟩ := z6.out W3 hW3.symm
    replace y2 := Lib.hid y2
    clear z1 z2 z3 z4 z5 z6 hW3 hX2
    go_wp2_with fail
    refine y2.out.mono ?_
    rintro e w4 ⟨A2, c2, rfl, o2, I2, F2⟩
    replace o2 := Lib.hid o2
    replace I2 := Lib.hid I2
    replace F2 := Lib.hid F2
    clear y2
    go_wp2_with fail
    go_ret2
    exact ⟨A2, c2, rfl, o2.out, I2.out, F2.out⟩
end
end Go.Proofs.Ytgmanhbfdjlhbaa
