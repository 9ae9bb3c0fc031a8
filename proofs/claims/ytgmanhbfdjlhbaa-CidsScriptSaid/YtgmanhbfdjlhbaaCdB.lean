/- cids: a name's cells one by one; Free; tests on names handed over. -/
import Derived.Test.YtgmanhbfdjlhbaaCdA
import Derived.Test.YtgmanhbfdjlhbaaObj
import Derived.Test.YtgmanhbfdjlhbaaStr
import Derived.StillTailTactics
namespace Go.Proofs.Ytgmanhbfdjlhbaa
open Go.RowKit

theorem list8 (r : List UInt8) (h : r.length = 8) : ∃ x0 x1 x2 x3 x4 x5 x6 x7, r = [x0, x1, x2, x3, x4, x5, x6, x7] := by
  rcases r with _ | ⟨x0, _ | ⟨x1, _ | ⟨x2, _ | ⟨x3, _ | ⟨x4, _ | ⟨x5, _ | ⟨x6, _ | ⟨x7, _ | ⟨x8, r⟩⟩⟩⟩⟩⟩⟩⟩⟩
  all_goals first
    | (simp at h; done)
    | exact ⟨_, _, _, _, _, _, _, _, rfl⟩
/-- A name's twelve cells. -/
theorem nx12 (n : Nx) : ∃ x0 x1 x2 x3 x4 x5 x6 x7 : Int, n.cells = [.int .u64 (n.x.seq : Int), .int .u8 x0, .int .u8 x1, .int .u8 x2, .int .u8 x3, .int .u8 x4, .int .u8 x5, .int .u8 x6, .int .u8 x7, .slice n.A n.x.tok.length n.c, .int .i64 n.x.path, .bool n.x.told] := by
  obtain ⟨x0, x1, x2, x3, x4, x5, x6, x7, h⟩ := list8 (pad8 n.x.id) (pad8_len _)
  exact ⟨_, _, _, _, _, _, _, _, by unfold Nx.cells; rw [h]; rfl⟩
def Nx.agg (n : Nx) : Value := .agg n.cells.toArray
section
variable {w w' : World} {p : Nat} {A : Option Addr} {c : Nat} {l : List Nx} {use : Int}
theorem IsCd.rd (h : IsCd w p A c l use) : Rd w A (nxv l) := Rd.of_ownS h.row
theorem IsCd.lt (h : IsCd w p A c l use) : p < w.heap.size := heap_lt h.cell
theorem IsCd.below (h : IsCd w p A c l use) (b : Below w.heap.size w w') : IsCd w' p A c l use := h.fr (Fr.of_below b NoS) (fun _ _ x => x)
theorem IsCd.alloc (h : IsCd w p A c l use) (o : Obj) : IsCd (w.alloc o) p A c l use := h.below ((Below.refl _ w).alloc (Nat.le_refl _) o)
theorem IsCd.drewN (h : IsCd w p A c l use) (k : Nat) : IsCd (w.drewN k) p A c l use := h.fr ((Fr.refl NoS w).drewN k) (fun _ _ x => x)
/-- A name's cells in memory. -/
theorem load_nx {W : World} (hr : Rd W A (nxv l)) {k : Nat} (hk : k < l.length) :
    ∃ (b off : Nat) (x0 x1 x2 x3 x4 x5 x6 x7 : Int), A = some ⟨b, off, none⟩ ∧ (l[k]).cells = [.int .u64 ((l[k]).x.seq : Int), .int .u8 x0, .int .u8 x1, .int .u8 x2, .int .u8 x3, .int .u8 x4, .int .u8 x5, .int .u8 x6, .int .u8 x7, .slice (l[k]).A (l[k]).x.tok.length (l[k]).c, .int .i64 (l[k]).x.path, .bool (l[k]).x.told] ∧
      W.cell? ⟨b, off + k * 12, none⟩ = some (.int .u64 ((l[k]).x.seq : Int)) ∧ W.cell? ⟨b, off + k * 12 + 1, none⟩ = some (.int .u8 x0) ∧ W.cell? ⟨b, off + k * 12 + 2, none⟩ = some (.int .u8 x1) ∧ W.cell? ⟨b, off + k * 12 + 3, none⟩ = some (.int .u8 x2) ∧
      W.cell? ⟨b, off + k * 12 + 4, none⟩ = some (.int .u8 x3) ∧ W.cell? ⟨b, off + k * 12 + 5, none⟩ = some (.int .u8 x4) ∧ W.cell? ⟨b, off + k * 12 + 6, none⟩ = some (.int .u8 x5) ∧ W.cell? ⟨b, off + k * 12 + 7, none⟩ = some (.int .u8 x6) ∧ W.cell? ⟨b, off + k * 12 + 8, none⟩ = some (.int .u8 x7) ∧
      W.cell? ⟨b, off + k * 12 + 9, none⟩ = some (.slice (l[k]).A (l[k]).x.tok.length (l[k]).c) ∧ W.cell? ⟨b, off + k * 12 + 10, none⟩ = some (.int .i64 (l[k]).x.path) ∧ W.cell? ⟨b, off + k * 12 + 11, none⟩ = some (.bool (l[k]).x.told) := by
  obtain ⟨b, off, e, h⟩ := rv_cell Nx.cells nxc (by omega) hr hk
  obtain ⟨x0, x1, x2, x3, x4, x5, x6, x7, hc⟩ := nx12 l[k]
  rw [hc] at h
  exact ⟨b, off, x0, x1, x2, x3, x4, x5, x6, x7, e, hc, h 0 _ rfl, h 1 _ rfl, h 2 _ rfl, h 3 _ rfl, h 4 _ rfl, h 5 _ rfl, h 6 _ rfl, h 7 _ rfl, h 8 _ rfl, h 9 _ rfl, h 10 _ rfl, h 11 _ rfl⟩
/-- How many of the first k are free. -/
def cfn (l : List Nx) (k : Nat) : Nat := cfree ((l.take k).map Nx.x)
theorem cfn_succ {k : Nat} (hk : k < l.length) : cfn l (k + 1) = cfn l k + if (l[k]).x.path = -1 then 1 else 0 := by
  unfold cfn cfree
  rw [List.take_succ_eq_append_getElem hk, List.map_append, List.countP_append, List.map_cons, List.map_nil, List.countP_singleton]
  unfold Nm.free
  by_cases h : (l[k]).x.path = -1 <;> simp [h]
theorem cfn_le (k : Nat) : cfn l k ≤ k := by
  unfold cfn cfree
  refine Nat.le_trans List.countP_le_length ?_
  rw [List.length_map, List.length_take]; omega

set_option maxRecDepth 100000 in
set_option maxHeartbeats 4000000 in
theorem cfree_any (h : IsCd w p A c l use) : Calls Try.prog 12 #[.pointer (some ⟨p, 0, none⟩)] w fun e w' => e = .returned (.int .i64 (cfree (l.map Nx.x) : Nat)) ∧ Below w.heap.size w w' := by
  have c0 := wrote_cell h.cell 0 _ rfl
  have hr := Lib.hid h.rd
  have hsm := h.small
  obtain ⟨L, hL⟩ : ∃ L, l.length = L := ⟨_, rfl⟩
  rw [hL] at c0 hsm
  have he : Hid (cfree (l.map Nx.x) = cfn l L) := Lib.hid (by unfold cfn; rw [← hL, List.take_length])
  rw [he.out]
  clear h he
  replace hL := Lib.hid hL
  go_enter Try.func12, Try.ntmps12
  go_wp2_with fail
  go_loopw [3, 13] (fun n i wr => ∃ k : Nat, k ≤ L ∧ n = .int .i64 (cfn l k : Nat) ∧ i = .int .i64 k ∧ Hid (Below w.heap.size w wr)) (fun _ i _ => L - (intOf i).toNat)
  case atStart => exact ⟨0, by omega, rfl, rfl, Lib.hid (Below.refl _ w)⟩
  case round =>
    obtain ⟨k, hk, rfl, rfl, HB⟩ := hrel
    by_cases hkl : k < L
    · rename_i aa; clear aa
      have hkl2 : k < l.length := by rw [hL.out]; exact hkl
      obtain ⟨b, off, x0, x1, x2, x3, x4, x5, x6, x7, rfl, hcl, l0, l1, l2, l3, l4, l5, l6, l7, l8, l9, l10, l11⟩ := load_nx (hr.out.fr (Fr.of_below HB.out NoS) (fun _ _ _ x => x)) hkl2
      have hs := cfn_succ hkl2
      have hle := cfn_le (l := l) k
      obtain ⟨q0, hq0⟩ : ∃ q : Int, ((l[k]).x.seq : Int) = q := ⟨_, rfl⟩
      obtain ⟨q1, hq1⟩ : ∃ q, (l[k]).A = q := ⟨_, rfl⟩
      obtain ⟨q2, hq2⟩ : ∃ q, (l[k]).x.tok.length = q := ⟨_, rfl⟩
      obtain ⟨q3, hq3⟩ : ∃ q, (l[k]).c = q := ⟨_, rfl⟩
      obtain ⟨q4, hq4⟩ : ∃ q, (l[k]).x.path = q := ⟨_, rfl⟩
      obtain ⟨q5, hq5⟩ : ∃ q, (l[k]).x.told = q := ⟨_, rfl⟩
      rw [hq4] at hs
      obtain ⟨n, hn⟩ : ∃ n, cfn l k = n := ⟨_, rfl⟩
      rw [hn] at hs hle
      rw [hq0] at l0
      rw [hq1, hq2, hq3] at l9
      rw [hq4] at l10
      rw [hq5] at l11
      rw [hn]
      clear hq0 hq1 hq2 hq3 hq4 hq5 hcl hkl2
      by_cases hp : q4 = -1
      · subst hp
        rw [if_pos rfl] at hs
        replace hs := Lib.hid hs
        replace hn := Lib.hid hn
        go_wp2_with fail
        go_roundw
        case rel => exact ⟨k + 1, by omega, by rw [hs.out]; go_num, by go_num, Lib.hid ((HB.out).alloc HB.out.size _)⟩
        case measure => simp [intOf]; omega
      · have d1 : (q4 == -1) = false := beq_eq_false_iff_ne.2 hp
        rw [if_neg hp] at hs
        replace hs := Lib.hid hs
        replace hn := Lib.hid hn
        clear hp
        go_wp2_with fail
        go_roundw
        case rel => exact ⟨k + 1, by omega, by rw [hs.out]; rfl, by go_num, Lib.hid ((HB.out).alloc HB.out.size _)⟩
        case measure => simp [intOf]; omega
    · have hk' : k = L := by omega
      subst hk'
      go_wp2_with fail
      go_ret
      exact ⟨rfl, HB.out⟩
end
end Go.Proofs.Ytgmanhbfdjlhbaa
