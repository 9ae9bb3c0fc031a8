/- ranges: join. -/
import Derived.Test.YtdhdnpagdflgpaaRgB
import Derived.RegionTactic
import Derived.ChangeAlike
namespace Go.Proofs.Ytdhdnpagdflgpaa
open Go.RowKit

theorem rgv_setlo : ∀ (l : List Rg) (k v : Nat) (hk : k < l.length), (rgv l).set (k * 2) (.int .u64 v) = rgv (l.set k ⟨v, l[k].hi⟩)
  | x :: t, 0, v, _ => by simp [rv, Rg.cells]
  | x :: t, k + 1, v, hk => by
    have := rgv_setlo t k v (by simpa using hk)
    rw [show (k + 1) * 2 = k * 2 + 1 + 1 by omega]
    simp [rv, Rg.cells]
    simpa using this
def rjoinI (l : List Rg) (i : Int) : List Rg := if i < 0 then l else rjoin l i.toNat
theorem rjoin_set (l : List Rg) (k : Nat) (a b : Rg) (ha : l[k]? = some a) (hb : l[k + 1]? = some b) (h : a.lo = b.hi + 1) :
    (l.set k ⟨b.lo, a.hi⟩).take (k + 1) ++ (l.set k ⟨b.lo, a.hi⟩).drop (k + 2) = rjoin l k := by
  have hk := (List.getElem?_eq_some_iff.1 ha).1
  unfold rjoin
  rw [ha, hb]
  simp only
  rw [if_pos h, List.drop_set_of_lt (by omega), List.take_succ_eq_append_getElem (by simpa using hk), List.getElem_set_self, List.take_set_of_le (by omega), List.append_assoc]
  rfl
theorem rjoin_no (l : List Rg) (k : Nat) (h : l.length ≤ k + 1) : rjoin l k = l := by
  unfold rjoin
  rw [show l[k + 1]? = none from List.getElem?_eq_none h]
  split
  · rename_i h1 h2; cases h2
  · rfl
theorem rjoin_far (l : List Rg) (k : Nat) (a b : Rg) (ha : l[k]? = some a) (hb : l[k + 1]? = some b) (h : a.lo ≠ b.hi + 1) : rjoin l k = l := by
  unfold rjoin
  rw [ha, hb]
  simp only
  rw [if_neg h]

section
variable {w w' : World} {p : Nat} {A : Option Addr} {c : Nat} {s : Rs}
set_option maxRecDepth 100000 in
set_option maxHeartbeats 4000000 in
theorem join_any (h : IsSet w p A c s) (i : Int) (hi : -1 ≤ i ∧ i ≤ 1000) : Calls Try.prog 24 #[.pointer (some ⟨p, 0, none⟩), .int .i64 i] w fun e w' => e = .returned (.tuple #[]) ∧ ∃ A' c', IsSet w' p A' c' ⟨s.most, rjoinI s.l i, s.floor⟩ ∧ Fr (OnB p A) w w' ∧ Next w A A' := by
  have same : rjoinI s.l i = s.l → ∀ k, ∃ A' c', IsSet (w.drewN k) p A' c' ⟨s.most, rjoinI s.l i, s.floor⟩ ∧ Fr (OnB p A) w (w.drewN k) ∧ Next w A A' := fun e k => by
    rw [e]; exact ⟨A, c, h.drewN k, (Fr.refl _ w).drewN k, Next.refl w A⟩
  replace same := Lib.hid same
  have c1 := wrote_cell h.cell 1 _ rfl
  by_cases h0 : i < 0
  · have b1 : decide (i < 0) = true := decide_eq_true h0
    have hs : Hid (rjoinI s.l i = s.l) := Lib.hid (by unfold rjoinI; rw [if_pos h0])
    clear h0 h
    go_enter Try.func24, Try.ntmps24
    go_wp2_with fail
    go_quiet (fail)
    go_wp2_with fail
    refine bodyPost_ret (results_none rfl _ _ _) rfl ?_
    exact ⟨rfl, same.out hs.out _⟩
  · obtain ⟨k, hk⟩ := Int.eq_ofNat_of_zero_le (show 0 ≤ i by omega)
    subst hk
    have hri : rjoinI s.l (k : Int) = rjoin s.l k := by unfold rjoinI; rw [if_neg h0]; rfl
    rw [hri] at same ⊢
    have b1 : decide ((k : Int) < 0) = false := decide_eq_false h0
    have hsm := h.small
    obtain ⟨n, hn⟩ : ∃ n, s.l.length = n := ⟨_, rfl⟩
    by_cases h1 : n ≤ k + 1
    · have b2 : decide ((n : Int) ≤ (k : Int) + 1) = true := decide_eq_true (by omega)
      have hs : Hid (rjoin s.l k = s.l) := Lib.hid (rjoin_no s.l k (by omega))
      rw [hn] at c1
      replace hn := Lib.hid hn
      clear h0 h hri h1 hsm
      go_enter Try.func24, Try.ntmps24
      go_wp2_with fail
      go_quiet (fail)
      go_wp2_with fail
      refine bodyPost_ret (results_none rfl _ _ _) rfl ?_
      exact ⟨rfl, same.out hs.out _⟩
    · have b2 : decide ((n : Int) ≤ (k : Int) + 1) = false := decide_eq_false (by omega)
      obtain ⟨a, ha⟩ : ∃ a, s.l[k]? = some a := ⟨_, List.getElem?_eq_getElem (by omega)⟩
      obtain ⟨b, hb⟩ : ∃ b, s.l[k + 1]? = some b := ⟨_, List.getElem?_eq_getElem (by omega)⟩
      obtain ⟨g, off, hA, x0, x1⟩ := load_rg h.rd (k := k) (by omega)
      obtain ⟨g', off', hA', y0, y1⟩ := load_rg h.rd (k := k + 1) (by omega)
      have hg : A = some ⟨g, 0, none⟩ := by
        rcases h.at with e | ⟨g2, e, _⟩
        · rw [e] at hA; cases hA
        · rw [e] at hA ⊢; injection hA with hA; injection hA with e1 e2; subst e1; rfl
      have e1 : off = 0 := by rw [hg] at hA; injection hA with hA; injection hA with _ e2; exact e2.symm
      have e2 : g' = g ∧ off' = 0 := by rw [hg] at hA'; injection hA' with hA'; injection hA' with e3 e4; exact ⟨e3.symm, e4.symm⟩
      obtain ⟨rfl, rfl⟩ := e2
      subst e1
      rw [(List.getElem?_eq_some_iff.1 ha).2] at x0 x1
      rw [(List.getElem?_eq_some_iff.1 hb).2] at y0 y1
      simp only [Nat.zero_add] at x0 x1 y0 y1
      obtain ⟨al, hal⟩ : ∃ x : Int, (a.lo : Int) = x := ⟨_, rfl⟩
      obtain ⟨bh, hbh⟩ : ∃ x : Int, (b.hi : Int) = x := ⟨_, rfl⟩
      have hbt : bh ≤ 4611686018427387903 := by have := h.tops b (List.mem_of_getElem? hb); omega
      have hb0 : 0 ≤ bh := by omega
      have hw1 : IntKind.u64.wrap (bh + 1) = bh + 1 := by rw [IntKind.wrap_u64]; omega
      have hw2 : IntKind.i64.wrap ((k : Int) + 1) = (k : Int) + 1 := by rw [IntKind.wrap_i64]; omega
      have hk0 : (0 : Int) ≤ (k : Int) := by omega
      have hk1 : (k : Int) < (n : Int) := by omega
      have hk2 : (0 : Int) ≤ (k : Int) + 1 := by omega
      have hk3 : (k : Int) + 1 < (n : Int) := by omega
      have hk4 : ((k : Int) + 1).toNat = k + 1 := by omega
      subst hg
      clear hA hA' hri
      by_cases hj : a.lo = b.hi + 1
      · have b3 : (al != bh + 1) = false := by rw [bne_eq_false_iff_eq]; omega
        have f0 : w.frozen? ⟨g', k * 2, none⟩ = false := h.row.frozenAt _
        have hpg : p ≠ g' := by
          rcases h.at with e | ⟨g2, e, e2, _⟩
          · cases e
          · injection e with e; injection e with e; subst e; exact e2
        obtain ⟨l', hl'⟩ : ∃ l', s.l.set k ⟨b.lo, a.hi⟩ = l' := ⟨_, rfl⟩
        have hl'n : l'.length = n := by rw [← hl']; simpa using hn
        have hl'j : l'.take (k + 1) ++ l'.drop (k + 2) = rjoin s.l k := by rw [← hl']; exact rjoin_set s.l k a b ha hb hj
        have HD : Hid (∀ q, Calls Try.prog 32 #[.slice (some ⟨g', 0, none⟩) n c, .int .i64 ((k + 1 : Nat) : Int), .int .i64 (((k + 1 : Nat) : Int) + 1)] ((w.drewN q).setCell ⟨g', k * 2, none⟩ (.int .u64 b.lo)) fun e w' =>
            e = .returned (.slice (some ⟨g', 0, none⟩) (n - 1) c) ∧ w'.heap[p]? = some (.cells #[.int .i64 s.most, .slice (some ⟨g', 0, none⟩) s.l.length c, .int .u64 s.floor] 49 (0, 0)) ∧
            w'.ownsRow 0 33 2 (.slice (some ⟨g', 0, none⟩) (n - 1) c) (n - 1) (rgv (rjoin s.l k)) ∧ Fr (fun j => j = g') w w') := Lib.hid (fun q => by
          have o1 : (w.drewN q).ownsRow 0 33 2 (.slice (some ⟨g', 0, none⟩) s.l.length c) s.l.length (rgv s.l) := (h.drewN q).row
          have o2 := (o1.stored (k * 2) (.int .u64 b.lo)).1
          rw [rgv_setlo s.l k b.lo (by omega), (List.getElem?_eq_some_iff.1 ha).2, hl', hn, ← hl'n] at o2
          have F2 : Fr (fun j => j = g') w ((w.drewN q).setCell ⟨g', k * 2, none⟩ (.int .u64 b.lo)) := ((Fr.refl (fun j => j = g') w).drewN q).setCell (p := ⟨g', k * 2, none⟩) (fun _ => rfl) _
          have := delete_any l' g' c (k + 1) _ o2 (by omega) (by omega)
          rw [hl'n, hl'j] at this
          refine this.mono ?_
          rintro e w' ⟨rfl, o3, F3⟩
          have F := F2.trans F3
          exact ⟨rfl, heap_fr h.cell F hpg, o3, F⟩)
        have hj3 : Hid ((rjoin s.l k).length = n - 1 ∧ ∀ r ∈ rjoin s.l k, r.hi ≤ 4611686018427387903) := Lib.hid (by
          rw [← hl'j]
          refine ⟨by simp [hl'n]; omega, fun r hr => ?_⟩
          have hm : ∀ r ∈ l', r.hi ≤ 4611686018427387903 := by
            rw [← hl']
            intro r hr
            rcases List.mem_or_eq_of_mem_set hr with h1 | rfl
            · exact h.tops r h1
            · exact h.tops a (List.mem_of_getElem? ha)
          rcases List.mem_append.1 hr with h1 | h1
          · exact hm r (List.mem_of_mem_take h1)
          · exact hm r (List.mem_of_mem_drop h1))
        have HH := Lib.hid h
        rw [hn] at c1
        rw [hal] at x0
        rw [hbh] at y1
        have hn' := Lib.hid hn
        clear hn
        replace hal := Lib.hid hal
        replace hbh := Lib.hid hbh
        replace ha := Lib.hid ha
        replace hb := Lib.hid hb
        clear same hl' hl'n hl'j hj h hsm
        go_enter Try.func24, Try.ntmps24
        go_wp2_with fail
        go_quiet (fail)
        go_wp2_with fail
        go_region
        replace HD := Lib.hid (HD.out (nq + 1))
        have hpb : ((w.drewN (nq + 1)).setCell ⟨g', k * 2, none⟩ (.int .u64 b.lo)).cell? ⟨p, 1, none⟩ = some (.slice (some ⟨g', 0, none⟩) n c) := by
          rw [Fr.cell (S := fun j => j = g') (w := w) (((Fr.refl (fun j => j = g') w).drewN _).setCell (p := ⟨g', k * 2, none⟩) (fun _ => rfl) _) HH.out.lt hpg]
          exact c1
        obtain ⟨W, hW⟩ : ∃ W, (w.drewN (nq + 1)).setCell ⟨g', k * 2, none⟩ (.int .u64 b.lo) = W := ⟨_, rfl⟩
        rw [hW] at HD hpb ⊢
        clear hW x0 x1 y0 y1 f0 hw1 hw2 b1 b2 b3 hk2 hk3 hk4 c1
        have hm1 : (k : Int) + 1 = ((k + 1 : Nat) : Int) := by omega
        have hm2 : (k : Int) + 2 = ((k + 1 : Nat) : Int) + 1 := by omega
        obtain ⟨m, hm⟩ : ∃ m, k + 1 = m := ⟨_, rfl⟩
        rw [hm] at hm1 hm2 HD
        obtain ⟨n1, hn1⟩ : ∃ n1, n - 1 = n1 := ⟨_, rfl⟩
        rw [hn1] at HD hj3
        have hmb : m ≤ 1001 := by omega
        clear hm hn1
        go_wp2_with fail
        refine HD.out.mono ?_
        rintro e w3 ⟨rfl, h3, o3, F3⟩
        clear HD hpb
        have hc1 := wrote_cell h3 1 _ rfl
        have hf1 := frozen_of_row w3 p 1 _ _ h3
        have hfin : Hid (IsSet (w3.setCell ⟨p, 1, none⟩ (.slice (some ⟨g', 0, none⟩) n1 c)) p (some ⟨g', 0, none⟩) c ⟨s.most, rjoin s.l k, s.floor⟩ ∧ Fr (OnB p (some ⟨g', 0, none⟩)) w (w3.setCell ⟨p, 1, none⟩ (.slice (some ⟨g', 0, none⟩) n1 c))) := Lib.hid (by
          have F4 : Fr (fun j => j = p) w3 (w3.setCell ⟨p, 1, none⟩ (.slice (some ⟨g', 0, none⟩) n1 c)) := (Fr.refl (fun j => j = p) w3).setCell (p := ⟨p, 1, none⟩) (fun _ => rfl) _
          refine ⟨⟨?_, ?_, ?_, hj3.out.2, HH.out.most, HH.out.fl⟩, (F3.mono (fun j hj _ => .inr ⟨_, rfl, hj.symm⟩)).trans (F4.mono (fun j hj _ => .inl hj))⟩
          · have := heap_setCell_same w3 p 1 _ _ (.slice (some ⟨g', 0, none⟩) n1 c) h3
            rw [hj3.out.1]
            exact this
          · show World.ownsRow _ _ _ _ (.slice (some ⟨g', 0, none⟩) (rjoin s.l k).length c) (rjoin s.l k).length _
            rw [hj3.out.1]
            exact own_fr o3 F4 (fun j hj => by injection hj with hj; subst hj; exact fun e => hpg e.symm)
          · show (rjoin s.l k).length ≤ 100
            have := rjoin_len s.l k
            have := HH.out.small
            omega)
        replace o3 := Lib.hid o3
        replace F3 := Lib.hid F3
        replace h3 := Lib.hid h3
        go_wp2_with fail
        go_end0
        exact ⟨rfl, _, _, hfin.out.1, hfin.out.2, Next.refl w _⟩
      · have b3 : (al != bh + 1) = true := by rw [bne_iff_ne]; omega
        have hs : Hid (rjoin s.l k = s.l) := Lib.hid (rjoin_far s.l k a b ha hb hj)
        rw [hn] at c1
        rw [hal] at x0
        rw [hbh] at y1
        replace hn := Lib.hid hn
        replace hal := Lib.hid hal
        replace hbh := Lib.hid hbh
        replace ha := Lib.hid ha
        replace hb := Lib.hid hb
        clear h0 h hsm
        go_enter Try.func24, Try.ntmps24
        go_wp2_with fail
        go_quiet (fail)
        go_wp2_with fail
        refine bodyPost_ret (results_none rfl _ _ _) rfl ?_
        exact ⟨rfl, same.out hs.out _⟩
end
end Go.Proofs.Ytdhdnpagdflgpaa
