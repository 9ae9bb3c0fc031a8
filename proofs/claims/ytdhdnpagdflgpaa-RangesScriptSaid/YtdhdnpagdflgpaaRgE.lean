/- ranges: Add. -/
import Derived.Test.YtdhdnpagdflgpaaRgD
import Derived.Deep.RegionHeld3
import Derived.Deep.CutRange
namespace Go.Proofs.Ytdhdnpagdflgpaa
open Go.RowKit

theorem add1_any (r : Rg) (n X : Nat) (w : World) (hX : w.cell? ⟨X, 0, none⟩ = some (.int .u64 n)) :
    Calls Try.prog 22 (#[r.agg] ++ #[.pointer (some ⟨X, 0, none⟩)]) w fun e w' => e = .returned (.bool (decide (r.hi < n))) ∧ Below w.heap.size w w' := by
  unfold Rg.agg
  show Calls Try.prog 22 #[.agg #[.int .u64 r.lo, .int .u64 r.hi], .pointer (some ⟨X, 0, none⟩)] w _
  have g1 : ∀ o, (w.alloc o).cell? ⟨X, 0, none⟩ = some (.int .u64 n) := fun o => Lib.cell?_alloc_some o hX
  rw [← dec_natlt]
  obtain ⟨lo, hlo⟩ : ∃ x : Int, (r.lo : Int) = x := ⟨_, rfl⟩
  obtain ⟨hi, hhi⟩ : ∃ x : Int, (r.hi : Int) = x := ⟨_, rfl⟩
  obtain ⟨N, hN⟩ : ∃ x : Int, (n : Int) = x := ⟨_, rfl⟩
  rw [hlo, hhi, hN]
  rw [hN] at g1
  clear hlo hhi hN hX
  go_enter Try.func22, Try.ntmps22
  go_wp2_with fail
  go_ret
  exact ⟨rfl, (Below.refl _ w).alloc (Nat.le_refl _) _⟩
theorem ent_add : Ent 22 := enters_of Try.func22 (by kernel_rfl) rfl
theorem radd_rjoinI (l : List Rg) (n : Nat) : radd l n = rjoinI (rjoin (rins l n) (rat l n)) ((rat l n : Int) - 1) := by
  unfold radd rjoinI
  simp only
  by_cases h : rat l n = 0
  · rw [if_pos h, if_pos (by omega)]
  · rw [if_neg h, if_neg (by omega)]
    congr 1
    omega
theorem fidx_rat (l : List Rg) (n : Nat) : fidx (fun r => decide (r.hi < n)) l = if rat l n < l.length then (rat l n : Int) else -1 := by
  unfold fidx rat
  have e : (l.takeWhile fun r => !decide (r.hi < n)) = l.take (l.findIdx fun r => decide (r.hi < n)) := by
    have := List.takeWhile_eq_take_findIdx_not (xs := l) (p := fun r => !decide (r.hi < n))
    simpa using this
  rw [e, List.length_take]
  rcases h : l.findIdx? (fun r => decide (r.hi < n)) with _ | k
  · have : l.findIdx (fun r => decide (r.hi < n)) = l.length := by rw [List.findIdx_eq_length]; rw [List.findIdx?_eq_none_iff] at h; exact h
    rw [this, h]; simp
  · obtain ⟨hk, h1, h2⟩ := List.findIdx?_eq_some_iff_getElem.1 h
    have : l.findIdx (fun r => decide (r.hi < n)) = k := (List.findIdx_eq hk).2 ⟨h1, fun j hj => by have := h2 j hj; simpa using this⟩
    rw [this, Nat.min_eq_left (by omega), if_pos hk, h]

section
variable {w w' : World} {p : Nat} {A : Option Addr} {c : Nat} {s : Rs}
set_option maxRecDepth 100000 in
set_option maxHeartbeats 4000000 in
theorem add_no (h : IsSet w p A c s) (n : Nat) (hn : 4611686018427387903 < n ∨ (n ≤ 4611686018427387903 ∧ s.has n = true)) : Calls Try.prog 11 #[.pointer (some ⟨p, 0, none⟩), .int .u64 n] w fun e w' => e = .returned (.bool false) ∧ Below w.heap.size w w' := by
  have hX : ∀ m, (w.alloc (.cells #[.int .u64 n] m)).cell? ⟨w.heap.size, 0, none⟩ = some (.int .u64 n) := fun m => by rw [World.cell?_alloc_new]; rfl
  have hbl : Hid (∀ o, Below w.heap.size w (w.alloc o)) := Lib.hid (fun o => (Below.refl _ w).alloc (Nat.le_refl _) o)
  have CH : Hid (∀ o, Calls Try.prog 14 #[.pointer (some ⟨p, 0, none⟩), .int .u64 n] (w.alloc o) fun e w' => e = .returned (.bool (s.has n)) ∧ Below (w.alloc o).heap.size (w.alloc o) w') := Lib.hid (fun o => has_any (h.alloc o) n)
  obtain ⟨N, hN⟩ : ∃ N : Int, (n : Int) = N := ⟨_, rfl⟩
  rcases hn with h1 | ⟨h1, h2⟩
  · have b1 : decide (4611686018427387903 < N) = true := decide_eq_true (by omega)
    rw [hN] at hX ⊢
    clear h hN CH h1
    go_enter Try.func11, Try.ntmps11
    go_wp2_with fail
    go_ret
    exact ⟨rfl, hbl.out _⟩
  · have b1 : decide (4611686018427387903 < N) = false := decide_eq_false (by omega)
    rw [h2, hN] at CH
    rw [hN] at hX ⊢
    clear h hN h1 h2
    go_enter Try.func11, Try.ntmps11
    go_wp2_with fail
    refine (CH.out _).mono ?_
    rintro e w2 ⟨rfl, hb⟩
    replace hb := Lib.hid hb
    go_wp2_with fail
    go_ret
    exact ⟨rfl, (hbl.out _).trans (hb.out.mono (by simp))⟩

set_option maxRecDepth 100000 in
set_option maxHeartbeats 8000000 in
theorem add_yes (h : IsSet w p A c s) (n : Nat) (hn : n ≤ 4611686018427387903) (hh : s.has n = false) (hlm : s.l.length ≤ s.most) : Calls Try.prog 11 #[.pointer (some ⟨p, 0, none⟩), .int .u64 n] w fun e w' =>
    e = .returned (.bool true) ∧ ∃ A' c', IsSet w' p A' c' (s.add n) ∧ Fr (OnB p A) w w' ∧ Next w A A' := by
  have hmf := mkfn
  have hX : ∀ m, (w.alloc (.cells #[.int .u64 n] m)).cell? ⟨w.heap.size, 0, none⟩ = some (.int .u64 n) := fun m => by rw [World.cell?_alloc_new]; rfl
  have CH : Hid (∀ o, Calls Try.prog 14 #[.pointer (some ⟨p, 0, none⟩), .int .u64 n] (w.alloc o) fun e w' => e = .returned (.bool false) ∧ Below (w.alloc o).heap.size (w.alloc o) w') := Lib.hid (fun o => by
    have := has_any (h.alloc o) n
    rwa [hh] at this)
  have hmost := h.most
  obtain ⟨k, hk⟩ : ∃ k, rat s.l n = k := ⟨_, rfl⟩
  have hkl : k ≤ s.l.length := by rw [← hk]; exact (List.takeWhile_sublist _).length_le
  obtain ⟨L, hL⟩ : ∃ L, s.l.length = L := ⟨_, rfl⟩
  have HH := Lib.hid h
  have CI : Hid (∀ W, Below w.heap.size w W → W.cell? ⟨w.heap.size, 0, none⟩ = some (.int .u64 n) → Calls Try.prog 21 #[.slice A L c, .func (.func 22) #[] #[.pointer (some ⟨w.heap.size, 0, none⟩)]] W fun e w' => e = .returned (.int .i64 (if k < L then (k : Int) else -1)) ∧ Below W.heap.size W w') := Lib.hid (fun W hb hX => by
    have := idxr_any s.l A c _ _ (fun r => decide (r.hi < n)) W ent_add (h.below hb).rd (by have := h.small; omega) (fun W2 r hb2 _ => by
      have hlt := World.block_lt_of_cell? W _ hX
      refine (add1_any r n w.heap.size W2 ((hb2.cell (by simpa using hlt)).trans hX)).mono ?_
      rintro e w' ⟨rfl, hb3⟩
      exact ⟨rfl, hb2.trans (hb3.mono hb2.size)⟩)
    rw [fidx_rat, hk, hL] at this
    exact this)
  have hrins : s.l.take k ++ ⟨n, n⟩ :: s.l.drop k = rins s.l n := by unfold rins; rw [hk]
  have CN : Hid (∀ W, Below w.heap.size w W → W.cell? ⟨w.heap.size, 0, none⟩ = some (.int .u64 n) → Calls Try.prog 23 #[.slice A L c, .int .i64 k, .slice (some ⟨W.heap.size, 0, none⟩) 1 1] (W.alloc (.cells #[.int .u64 n, .int .u64 n] 33)) fun e w' =>
      ∃ A' c', e = .returned (.slice A' (L + 1) c') ∧ w'.cell? ⟨p, 1, none⟩ = some (.slice A L c) ∧ w'.frozen? ⟨p, 1, none⟩ = false ∧ w'.cell? ⟨w.heap.size, 0, none⟩ = some (.int .u64 n) ∧
      IsSet (w'.setCell ⟨p, 1, none⟩ (.slice A' (L + 1) c')) p A' c' ⟨s.most, rins s.l n, s.floor⟩ ∧ Fr (OnB p A) w (w'.setCell ⟨p, 1, none⟩ (.slice A' (L + 1) c')) ∧ Next w A A') := Lib.hid (fun W hb hXW => by
    have hW := h.below hb
    have hltX := World.block_lt_of_cell? W _ hXW
    simp only at hltX
    have hne : ∀ a, A = some a → a.block < W.heap.size ∧ a.block ≠ p := fun a ha => ⟨hW.on_lt _ (.inr ⟨a, ha, rfl⟩), hW.ne a ha⟩
    have := insert_any s.l A c k W.heap.size ⟨n, n⟩ (W.alloc (.cells #[.int .u64 n, .int .u64 n] 33)) (hW.alloc _).row (by have := h.small; omega) hkl (heap_alloc_new W _) (fun a ha => by have := hne a ha; omega)
    rw [hL, hrins] at this
    refine this.mono ?_
    rintro e w' ⟨A', c', rfl, o', F', N'⟩
    have F1 : Fr (fun j => ∃ a, A = some a ∧ a.block = j) w w' := (Fr.of_below (hb) _).trans (((Fr.refl _ W).alloc _).trans F')
    have hp1 : w'.heap[p]? = some (.cells #[.int .i64 s.most, .slice A s.l.length c, .int .u64 s.floor] 49 (0, 0)) := heap_fr h.cell F1 (by rintro ⟨a, ha, e⟩; exact h.ne a ha e)
    have hXB : w'.cell? ⟨w.heap.size, 0, none⟩ = some (.int .u64 n) := by
      rw [Fr.cell (((Fr.refl _ W).alloc _).trans F') hltX (by rintro ⟨a, ha, e⟩; have := h.on_lt _ (.inr ⟨a, ha, rfl⟩); simp only at e; omega)]
      exact hXW
    have F2 : Fr (fun j => j = p) w' (w'.setCell ⟨p, 1, none⟩ (.slice A' (L + 1) c')) := (Fr.refl (fun j => j = p) w').setCell (p := ⟨p, 1, none⟩) (fun _ => rfl) _
    have hlr : (rins s.l n).length = L + 1 := by rw [rins_len, hL]
    have hA'p : ∀ j, (Value.slice A' (L + 1) c').ownBlock = some j → j ≠ p := by
      intro j hj e
      subst e
      rcases ownS_cases o' with ⟨h1, _⟩ | ⟨g, h1, _⟩
      · rw [h1] at hj; cases hj
      · subst h1
        injection hj with hj
        simp only at hj
        subst hj
        exact own_typed o' hp1 rfl rfl
    refine ⟨A', c', rfl, by have := wrote_cell hp1 1 _ rfl; rw [hL] at this; exact this, frozen_of_row w' p 1 _ _ hp1, hXB, ⟨?_, ?_, ?_, ?_, h.most, h.fl⟩, (F1.mono (fun j hj _ => .inr hj)).trans (F2.mono (fun j hj _ => .inl hj)), ?_⟩
    · have := heap_setCell_same w' p 1 _ _ (.slice A' (L + 1) c') hp1
      rw [this]
      simp only [hlr]
      rfl
    · simp only [hlr]
      exact own_fr o' F2 (fun j hj => hA'p j hj)
    · simp only [hlr]; omega
    · intro r hr
      simp only at hr
      unfold rins at hr
      rcases List.mem_append.1 hr with hr | hr
      · exact h.tops r (List.mem_of_mem_take hr)
      · rcases List.mem_cons.1 hr with rfl | hr
        · exact hn
        · exact h.tops r (List.mem_of_mem_drop hr)
    · intro a ha
      rcases N' a ha with h1 | h1
      · exact .inl h1
      · refine .inr ?_
        have := hb.size
        simp at h1
        omega)
  have hR := radd_rjoinI s.l n
  rw [hk] at hR
  have hadd : s.add n = Rs.trim ⟨s.most, radd s.l n, s.floor⟩ := rfl
  rw [hadd, hR]
  obtain ⟨m, hm⟩ : ∃ m, rjoinI (rjoin (rins s.l n) k) ((k : Int) - 1) = m := ⟨_, rfl⟩
  rw [hm]
  replace hm := Lib.hid hm
  have hrat := Lib.hid hk
  obtain ⟨N, hN⟩ : ∃ N : Int, (n : Int) = N := ⟨_, rfl⟩
  have b1 : decide (4611686018427387903 < N) = false := decide_eq_false (by omega)
  have c1a : Hid (∀ W, Below w.heap.size w W → W.cell? ⟨p, 1, none⟩ = some (.slice A L c)) := Lib.hid (fun W hb => by have := wrote_cell (h.below hb).cell 1 _ rfl; rwa [hL] at this)
  have hbl : Hid (∀ o, Below w.heap.size w (w.alloc o)) := Lib.hid (fun o => (Below.refl _ w).alloc (Nat.le_refl _) o)
  have hjb : Hid (∀ (W : World) A1 c1 (l1 : List Rg) (i : Int), IsSet W p A1 c1 ⟨s.most, l1, s.floor⟩ → -1 ≤ i ∧ i ≤ 1000 → Fr (OnB p A) w W → Next w A A1 → Calls Try.prog 24 #[.pointer (some ⟨p, 0, none⟩), .int .i64 i] W fun e w' => e = .returned (.tuple #[]) ∧ ∃ A' c', IsSet w' p A' c' ⟨s.most, rjoinI l1 i, s.floor⟩ ∧ Fr (OnB p A) w w' ∧ Next w A A') := Lib.hid (fun W A1 c1 l1 i hI hi hF hNx => by
    refine (join_any hI i hi).mono ?_
    rintro e w' ⟨rfl, A', c', I', F', N'⟩
    exact ⟨rfl, A', c', I', hF.next hNx F', hNx.trans hF.size N'⟩)
  have hk100 : k ≤ 100 := by omega
  have hkL0 : k ≤ L := by omega
  have hL64 : L ≤ 64 := by omega
  have hR' := Lib.hid hR
  have hLL := Lib.hid hL
  rw [hN] at hX CI CN ⊢
  simp only [hN] at CH
  replace hN := Lib.hid hN
  clear h hh hn hk hL hrins hR hadd hlm
  go_enter Try.func11, Try.ntmps11
  go_wp2_with fail
  refine (CH.out _).mono ?_
  rintro e w2 ⟨rfl, hb2⟩
  have hX2 : w2.cell? ⟨w.heap.size, 0, none⟩ = some (.int .u64 N) := (hb2.cell (by simp)).trans (hX _)
  have hb : Below w.heap.size w w2 := (hbl.out _).trans (hb2.mono (by simp))
  have hc2 := c1a.out w2 hb
  replace hb := Lib.hid hb
  clear hb2 CH
  go_wp2_with fail
  refine (CI.out w2 hb.out hX2).mono ?_
  rintro e w3 ⟨rfl, hb3⟩
  have hX3 : w3.cell? ⟨w.heap.size, 0, none⟩ = some (.int .u64 N) := (hb3.cell (World.block_lt_of_cell? w2 _ hX2)).trans hX2
  replace hb : Hid (Below w.heap.size w w3) := Lib.hid (hb.out.trans (hb3.mono hb.out.size))
  have hc3 := c1a.out w3 hb.out
  clear hb3 hX2 hc2 CI hX
  by_cases hkL : k < L
  · rw [if_pos hkL]
    have b2 : decide ((k : Int) < 0) = false := decide_eq_false (by omega)
    go_wp2_with fail
    clear b2
    go_cut [] from 31 to 43 (fun wx => ∃ A4 c4, Hid (IsSet wx p A4 c4 ⟨s.most, rins s.l n, s.floor⟩) ∧ Hid (Fr (OnB p A) w wx) ∧ Hid (Next w A A4))
    case first =>
      have hIns := Lib.hid (CN.out w3.drew (hb.out.trans ((Still.drew w3).below.mono hb.out.size)) hX3)
      have hc3a : ∀ o, (w3.drew.alloc o).cell? ⟨p, 1, none⟩ = some (.slice A L c) := fun o => Lib.cell?_alloc_some o hc3
      have hX3a : ∀ o, (w3.drew.alloc o).cell? ⟨w.heap.size, 0, none⟩ = some (.int .u64 N) := fun o => Lib.cell?_alloc_some o hX3
      have hc3b : ∀ o, (w3.alloc o).drew.cell? ⟨p, 1, none⟩ = some (.slice A L c) := fun o => Lib.cell?_alloc_some o hc3
      have hX3b : ∀ o, (w3.alloc o).drew.cell? ⟨w.heap.size, 0, none⟩ = some (.int .u64 N) := fun o => Lib.cell?_alloc_some o hX3
      clear CN
      go_region_law (first
        | (go_simp; go_at_call 23; refine hIns.out.mono ?_; rintro e w4 ⟨A4, c4, rfl, hcp, hfp, hcX, I4, F4, N4⟩; replace I4 := Lib.hid I4; replace F4 := Lib.hid F4; replace N4 := Lib.hid N4))
      all_goals (go_wp2_with fail; go_meet; exact ⟨A4, c4, I4, F4, N4⟩)
    case rest =>
      obtain ⟨A4, c4, I4, F4, N4⟩ := hcut
      clear hc3 hX3 CN hb c1a
      go_wp2_with fail
      refine (hjb.out wc A4 c4 (rins s.l n) (k : Int) I4.out (by omega) F4.out N4.out).mono ?_
      rintro e w5 ⟨rfl, A5, c5, I5, F5, N5⟩
      have e5 : rjoinI (rins s.l n) (k : Int) = rjoin (rins s.l n) k := by unfold rjoinI; rw [if_neg (by omega)]; rfl
      rw [e5] at I5
      replace I5 := Lib.hid I5
      replace F5 := Lib.hid F5
      replace N5 := Lib.hid N5
      clear I4 F4 N4 e5
      go_wp2_with fail
      refine (hjb.out w5 A5 c5 (rjoin (rins s.l n) k) ((k : Int) - 1) I5.out (by omega) F5.out N5.out).mono ?_
      rintro e w6 ⟨rfl, A6, c6, I6, F6, N6⟩
      rw [hm.out] at I6
      obtain ⟨M, hM⟩ : ∃ M, m.length = M := ⟨_, rfl⟩
      have c60 := wrote_cell I6.cell 0 _ rfl
      have c61 := wrote_cell I6.cell 1 _ rfl
      rw [hM] at c61
      simp only at c60
      have hM100 : M ≤ 100 := by have := I6.small; simp only at this; omega
      replace F6 := Lib.hid F6
      replace N6 := Lib.hid N6
      clear I5 F5 N5 hjb
      obtain ⟨mo, hmo⟩ : ∃ mo, s.most = mo := ⟨_, rfl⟩
      rw [hmo] at c60 hmost
      by_cases htrim : M = mo + 1
      · subst htrim
        have hMI : ((mo + 1 : Nat) : Int) - 1 = (mo : Int) := by omega
        have bq : ((mo : Int) == (mo : Int)) = true := by simp
        have hlast : mo < m.length := by omega
        obtain ⟨g, off, hA, x0, x1⟩ := load_rg I6.rd (k := mo) (by simp only; omega)
        obtain ⟨r, hr⟩ : ∃ r, m[mo] = r := ⟨_, rfl⟩
        simp only [hr] at x0 x1
        have hr2 : m[mo]? = some r := by rw [List.getElem?_eq_getElem hlast, hr]
        have hrt := I6.tops r (List.mem_of_getElem? hr2)
        have hg : A6 = some ⟨g, 0, none⟩ ∧ off = 0 ∧ p ≠ g := by
          rcases I6.at with e | ⟨g2, e, e2, _⟩
          · rw [e] at hA; cases hA
          · rw [e] at hA ⊢; injection hA with hA; injection hA with e1 e3; subst e1; exact ⟨rfl, e3.symm, e2⟩
        obtain ⟨rfl, rfl, hpg⟩ := hg
        rw [Nat.zero_add] at x0 x1
        obtain ⟨rh, hrh⟩ : ∃ rh, r.hi + 1 = rh := ⟨_, rfl⟩
        have hrI : (r.hi : Int) + 1 = (rh : Int) := by omega
        have hrt2 : r.hi ≤ 4611686018427387903 := hrt
        have f1 := frozen_of_row w6 p 1 _ _ I6.cell
        have f2 := frozen_of_row w6 p 2 _ _ I6.cell
        have c62 := wrote_cell I6.cell 2 _ rfl
        have hcapg : mo ≤ c6 := by
          have := ownS_cases I6.row
          rcases this with ⟨h1, _⟩ | ⟨_, _, _, _, h1, _⟩
          · cases h1
          · simp only at h1; omega
        have HS := cutS_h (P := Try.prog) Try.underlying30 infoR (some ⟨g, 0, none⟩) (mo + 1) c6 mo (mo : Int) rfl hcapg
        have hfin : Hid (IsSet ((w6.setCell ⟨p, 2, none⟩ (.int .u64 rh)).setCell ⟨p, 1, none⟩ (.slice (some ⟨g, 0, none⟩) mo c6)) p (some ⟨g, 0, none⟩) c6 (Rs.trim ⟨s.most, m, s.floor⟩) ∧ Fr (OnB p A) w ((w6.setCell ⟨p, 2, none⟩ (.int .u64 rh)).setCell ⟨p, 1, none⟩ (.slice (some ⟨g, 0, none⟩) mo c6))) := Lib.hid (by
          have F7 : Fr (fun j => j = p) w6 ((w6.setCell ⟨p, 2, none⟩ (.int .u64 rh)).setCell ⟨p, 1, none⟩ (.slice (some ⟨g, 0, none⟩) mo c6)) := ((Fr.refl (fun j => j = p) w6).setCell (p := ⟨p, 2, none⟩) (fun _ => rfl) _).setCell (p := ⟨p, 1, none⟩) (fun _ => rfl) _
          have hdl : m.dropLast = m.take mo := by rw [List.dropLast_eq_take, hM]; rfl
          have et : Rs.trim ⟨s.most, m, s.floor⟩ = ⟨s.most, m.take mo, rh⟩ := by
            have hgl : m.getLast? = some r := by rw [List.getLast?_eq_getElem?, hM]; exact hr2
            unfold Rs.trim
            simp only
            rw [if_pos (by rw [hM, hmo]), hgl, hdl]
            simp only [Option.map_some, Option.getD_some, hrh]
          have hlt : (m.take mo).length = mo := by rw [List.length_take]; omega
          rw [et]
          refine ⟨⟨?_, ?_, by simp only [hlt]; omega, fun r hr => I6.tops r (List.mem_of_mem_take hr), I6.most, by simp only; omega⟩, F6.out.trans (F7.mono (fun j hj _ => .inl hj))⟩
          · have := heap_setCell_same _ p 1 _ _ (.slice (some ⟨g, 0, none⟩) mo c6) (heap_setCell_same w6 p 2 _ _ (.int .u64 rh) I6.cell)
            simp only [hlt]
            exact this
          · simp only [hlt]
            have o7 := own_fr I6.row F7 (fun j hj => by injection hj with hj; subst hj; exact fun e => hpg e.symm)
            simp only [hM] at o7
            have := own_cut o7 (m := mo) (by omega)
            rwa [← rgv_take] at this)
        replace I6 := Lib.hid I6
        replace hM := Lib.hid hM
        replace hr := Lib.hid hr
        replace hr2 := Lib.hid hr2
        replace hmo := Lib.hid hmo
        clear hrh hrt
        go_wp2_with fail
        go_ret
        exact ⟨rfl, _, _, hfin.out.1, hfin.out.2, N6.out⟩
      · have bq : ((M : Int) - 1 == (mo : Int)) = false := by rw [beq_eq_false_iff_ne]; omega
        have et : Hid (Rs.trim ⟨s.most, m, s.floor⟩ = ⟨s.most, m, s.floor⟩) := Lib.hid (by unfold Rs.trim; simp only; rw [if_neg (by rw [hM, hmo]; exact htrim)])
        replace I6 := Lib.hid I6
        replace hM := Lib.hid hM
        replace hmo := Lib.hid hmo
        clear htrim
        go_wp2_with fail
        go_ret
        exact ⟨rfl, A6, c6, by rw [et.out]; exact I6.out, F6.out, N6.out⟩
  · obtain rfl : k = L := by omega
    rw [if_neg hkL]
    go_wp2_with fail
    go_cut [] from 31 to 43 (fun wx => ∃ A4 c4, Hid (IsSet wx p A4 c4 ⟨s.most, rins s.l n, s.floor⟩) ∧ Hid (Fr (OnB p A) w wx) ∧ Hid (Next w A A4))
    case first =>
      have hIns := Lib.hid (CN.out w3.drew (hb.out.trans ((Still.drew w3).below.mono hb.out.size)) hX3)
      have hc3a : ∀ o, (w3.drew.alloc o).cell? ⟨p, 1, none⟩ = some (.slice A k c) := fun o => Lib.cell?_alloc_some o hc3
      have hX3a : ∀ o, (w3.drew.alloc o).cell? ⟨w.heap.size, 0, none⟩ = some (.int .u64 N) := fun o => Lib.cell?_alloc_some o hX3
      have hc3b : ∀ o, (w3.alloc o).drew.cell? ⟨p, 1, none⟩ = some (.slice A k c) := fun o => Lib.cell?_alloc_some o hc3
      have hX3b : ∀ o, (w3.alloc o).drew.cell? ⟨w.heap.size, 0, none⟩ = some (.int .u64 N) := fun o => Lib.cell?_alloc_some o hX3
      clear CN
      go_region_law (first
        | (go_simp; go_at_call 23; refine hIns.out.mono ?_; rintro e w4 ⟨A4, c4, rfl, hcp, hfp, hcX, I4, F4, N4⟩; replace I4 := Lib.hid I4; replace F4 := Lib.hid F4; replace N4 := Lib.hid N4))
      all_goals (go_wp2_with fail; go_meet; exact ⟨A4, c4, I4, F4, N4⟩)
    case rest =>
      obtain ⟨A4, c4, I4, F4, N4⟩ := hcut
      clear hc3 hX3 CN hb c1a
      go_wp2_with fail
      refine (hjb.out wc A4 c4 (rins s.l n) (k : Int) I4.out (by omega) F4.out N4.out).mono ?_
      rintro e w5 ⟨rfl, A5, c5, I5, F5, N5⟩
      have e5 : rjoinI (rins s.l n) (k : Int) = rjoin (rins s.l n) k := by unfold rjoinI; rw [if_neg (by omega)]; rfl
      rw [e5] at I5
      replace I5 := Lib.hid I5
      replace F5 := Lib.hid F5
      replace N5 := Lib.hid N5
      clear I4 F4 N4 e5
      go_wp2_with fail
      refine (hjb.out w5 A5 c5 (rjoin (rins s.l n) k) ((k : Int) - 1) I5.out (by omega) F5.out N5.out).mono ?_
      rintro e w6 ⟨rfl, A6, c6, I6, F6, N6⟩
      rw [hm.out] at I6
      obtain ⟨M, hM⟩ : ∃ M, m.length = M := ⟨_, rfl⟩
      have c60 := wrote_cell I6.cell 0 _ rfl
      have c61 := wrote_cell I6.cell 1 _ rfl
      rw [hM] at c61
      simp only at c60
      have hM100 : M ≤ 100 := by have := I6.small; simp only at this; omega
      replace F6 := Lib.hid F6
      replace N6 := Lib.hid N6
      clear I5 F5 N5 hjb
      obtain ⟨mo, hmo⟩ : ∃ mo, s.most = mo := ⟨_, rfl⟩
      rw [hmo] at c60 hmost
      by_cases htrim : M = mo + 1
      · subst htrim
        have hMI : ((mo + 1 : Nat) : Int) - 1 = (mo : Int) := by omega
        have bq : ((mo : Int) == (mo : Int)) = true := by simp
        have hlast : mo < m.length := by omega
        obtain ⟨g, off, hA, x0, x1⟩ := load_rg I6.rd (k := mo) (by simp only; omega)
        obtain ⟨r, hr⟩ : ∃ r, m[mo] = r := ⟨_, rfl⟩
        simp only [hr] at x0 x1
        have hr2 : m[mo]? = some r := by rw [List.getElem?_eq_getElem hlast, hr]
        have hrt := I6.tops r (List.mem_of_getElem? hr2)
        have hg : A6 = some ⟨g, 0, none⟩ ∧ off = 0 ∧ p ≠ g := by
          rcases I6.at with e | ⟨g2, e, e2, _⟩
          · rw [e] at hA; cases hA
          · rw [e] at hA ⊢; injection hA with hA; injection hA with e1 e3; subst e1; exact ⟨rfl, e3.symm, e2⟩
        obtain ⟨rfl, rfl, hpg⟩ := hg
        rw [Nat.zero_add] at x0 x1
        obtain ⟨rh, hrh⟩ : ∃ rh, r.hi + 1 = rh := ⟨_, rfl⟩
        have hrI : (r.hi : Int) + 1 = (rh : Int) := by omega
        have hrt2 : r.hi ≤ 4611686018427387903 := hrt
        have f1 := frozen_of_row w6 p 1 _ _ I6.cell
        have f2 := frozen_of_row w6 p 2 _ _ I6.cell
        have c62 := wrote_cell I6.cell 2 _ rfl
        have hcapg : mo ≤ c6 := by
          have := ownS_cases I6.row
          rcases this with ⟨h1, _⟩ | ⟨_, _, _, _, h1, _⟩
          · cases h1
          · simp only at h1; omega
        have HS := cutS_h (P := Try.prog) Try.underlying30 infoR (some ⟨g, 0, none⟩) (mo + 1) c6 mo (mo : Int) rfl hcapg
        have hfin : Hid (IsSet ((w6.setCell ⟨p, 2, none⟩ (.int .u64 rh)).setCell ⟨p, 1, none⟩ (.slice (some ⟨g, 0, none⟩) mo c6)) p (some ⟨g, 0, none⟩) c6 (Rs.trim ⟨s.most, m, s.floor⟩) ∧ Fr (OnB p A) w ((w6.setCell ⟨p, 2, none⟩ (.int .u64 rh)).setCell ⟨p, 1, none⟩ (.slice (some ⟨g, 0, none⟩) mo c6))) := Lib.hid (by
          have F7 : Fr (fun j => j = p) w6 ((w6.setCell ⟨p, 2, none⟩ (.int .u64 rh)).setCell ⟨p, 1, none⟩ (.slice (some ⟨g, 0, none⟩) mo c6)) := ((Fr.refl (fun j => j = p) w6).setCell (p := ⟨p, 2, none⟩) (fun _ => rfl) _).setCell (p := ⟨p, 1, none⟩) (fun _ => rfl) _
          have hdl : m.dropLast = m.take mo := by rw [List.dropLast_eq_take, hM]; rfl
          have et : Rs.trim ⟨s.most, m, s.floor⟩ = ⟨s.most, m.take mo, rh⟩ := by
            have hgl : m.getLast? = some r := by rw [List.getLast?_eq_getElem?, hM]; exact hr2
            unfold Rs.trim
            simp only
            rw [if_pos (by rw [hM, hmo]), hgl, hdl]
            simp only [Option.map_some, Option.getD_some, hrh]
          have hlt : (m.take mo).length = mo := by rw [List.length_take]; omega
          rw [et]
          refine ⟨⟨?_, ?_, by simp only [hlt]; omega, fun r hr => I6.tops r (List.mem_of_mem_take hr), I6.most, by simp only; omega⟩, F6.out.trans (F7.mono (fun j hj _ => .inl hj))⟩
          · have := heap_setCell_same _ p 1 _ _ (.slice (some ⟨g, 0, none⟩) mo c6) (heap_setCell_same w6 p 2 _ _ (.int .u64 rh) I6.cell)
            simp only [hlt]
            exact this
          · simp only [hlt]
            have o7 := own_fr I6.row F7 (fun j hj => by injection hj with hj; subst hj; exact fun e => hpg e.symm)
            simp only [hM] at o7
            have := own_cut o7 (m := mo) (by omega)
            rwa [← rgv_take] at this)
        replace I6 := Lib.hid I6
        replace hM := Lib.hid hM
        replace hr := Lib.hid hr
        replace hr2 := Lib.hid hr2
        replace hmo := Lib.hid hmo
        clear hrh hrt
        go_wp2_with fail
        go_ret
        exact ⟨rfl, _, _, hfin.out.1, hfin.out.2, N6.out⟩
      · have bq : ((M : Int) - 1 == (mo : Int)) = false := by rw [beq_eq_false_iff_ne]; omega
        have et : Hid (Rs.trim ⟨s.most, m, s.floor⟩ = ⟨s.most, m, s.floor⟩) := Lib.hid (by unfold Rs.trim; simp only; rw [if_neg (by rw [hM, hmo]; exact htrim)])
        replace I6 := Lib.hid I6
        replace hM := Lib.hid hM
        replace hmo := Lib.hid hmo
        clear htrim
        go_wp2_with fail
        go_ret
        exact ⟨rfl, A6, c6, by rw [et.out]; exact I6.out, F6.out, N6.out⟩
end
end Go.Proofs.Ytdhdnpagdflgpaa
