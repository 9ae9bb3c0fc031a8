/- The document's own table: Insert. -/
import Derived.Test.YtgcnhppafclnmaaTrA
import Derived.Deep.RegionHeld3
import Derived.Deep.CutRange
namespace Go.Proofs.Ytgcnhppafclnmaa
open Go.RowKit

/-- The document's table at which Insert is at work. -/
structure RtX (w0 w : World) (p B : Nat) (a b : ByteArray) (A : Option Addr) (c M : Nat) (F : List Fd) (g : Nat) : Prop where
  rt : Rt w p A c M F g
  fr : Fr (fun k => k = p) w0 w
  bx : w.cell? ⟨B, 0, none⟩ = some (.string a) ∧ w.cell? ⟨B, 1, none⟩ = some (.string b)
  bp : B ≠ p
section
variable {w0 w w' : World} {p B : Nat} {a b : ByteArray} {A : Option Addr} {c M g : Nat} {F : List Fd}
theorem RtX.below (h : RtX w0 w p B a b A c M F g) (hb : Below w.heap.size w w') : RtX w0 w' p B a b A c M F g :=
  ⟨h.rt.below hb, h.fr.trans (Fr.of_below hb _), ⟨(hb.cell (p := ⟨B, 0, none⟩) (World.block_lt_of_cell? w _ h.bx.1)).trans h.bx.1, (hb.cell (p := ⟨B, 1, none⟩) (World.block_lt_of_cell? w _ h.bx.2)).trans h.bx.2⟩, h.bp⟩
theorem RtX.set2 (h : RtX w0 w p B a b A c M F g) (g' : Nat) (hg : g' ≤ F.length) (hs : tsum (F.drop g') ≤ 1000000) : RtX w0 (w.setCell ⟨p, 2, none⟩ (.int .i64 g')) p B a b A c M F g' := by
  have f : Fr (fun k => k = p) w (w.setCell ⟨p, 2, none⟩ (.int .i64 g')) := (Fr.refl (fun k => k = p) w).setCell (p := ⟨p, 2, none⟩) (fun _ => rfl) _
  refine ⟨⟨heap_setCell_same w p 2 _ _ _ h.rt.cell, own_fr h.rt.row f (fun k hk e => ?_), hg, hs, h.rt.small, h.rt.most⟩, h.fr.trans f, ⟨(f.cell (p := ⟨B, 0, none⟩) (World.block_lt_of_cell? w _ h.bx.1) h.bp).trans h.bx.1, (f.cell (p := ⟨B, 1, none⟩) (World.block_lt_of_cell? w _ h.bx.2) h.bp).trans h.bx.2⟩, h.bp⟩
  subst e
  cases A with
  | none => cases hk
  | some x => injection hk with hk; exact h.rt.ne x rfl hk
theorem RtX.app (h : RtX w0 w p B a b A c M F g) (o : Obj) (N n : Nat) (hN : F.length = N) (hn : a.size + b.size + 32 = n) (hs : tsum (F.drop g) + n ≤ M) (hF : N < 1000000) (A3 : Option Addr) (c3 : Nat) (w6 : World)
    (o6 : w6.ownsRow 0 28 2 (.slice A3 (N + 1) c3) (N + 1) (fdv F ++ [.string a, .string b])) (g6 : (w.alloc o).drew.grownBy w6 (Value.slice A N c).ownBlock)
    (hat : (Value.slice A3 (N + 1) c3).ownBlock = (Value.slice A N c).ownBlock ∨ (Value.slice A3 (N + 1) c3).ownBlock = some (w.alloc o).drew.heap.size) :
    (w6.cell? ⟨p, 1, none⟩ = some (.slice A N c) ∧ w6.frozen? ⟨p, 1, none⟩ = false) ∧ Rt (w6.setCell ⟨p, 1, none⟩ (.slice A3 (N + 1) c3)) p A3 c3 M (F ++ [⟨a, b⟩]) g ∧ Fr (OnB p A) w0 (w6.setCell ⟨p, 1, none⟩ (.slice A3 (N + 1) c3)) ∧ Next w0 A A3 := by
  subst hN
  have f : Fr (fun q => (Value.slice A F.length c).ownBlock = some q) w w6 := (((Fr.refl _ w).alloc o).drew).grown g6 (fun _ hq _ => hq)
  have hc6 := heap_fr h.rt.cell f (fun e => by
    cases A with
    | none => cases e
    | some x => injection e with e; exact h.rt.ne x rfl e)
  have f2 : Fr (fun k => k = p) w6 (w6.setCell ⟨p, 1, none⟩ (.slice A3 (F.length + 1) c3)) := (Fr.refl (fun k => k = p) w6).setCell (p := ⟨p, 1, none⟩) (fun _ => rfl) _
  have hm := h.rt.most
  refine ⟨⟨wrote_cell hc6 1 _ rfl, frozen_of_row w6 p 1 _ _ hc6⟩, ⟨?_, ?_, ?_, ?_, ?_, hm⟩, ?_, ?_⟩
  · have := heap_setCell_same w6 p 1 _ _ (.slice A3 (F.length + 1) c3) hc6
    rw [show (F ++ [(⟨a, b⟩ : Fd)]).length = F.length + 1 by simp]
    exact this
  · rw [show (F ++ [(⟨a, b⟩ : Fd)]).length = F.length + 1 by simp, fdv_append]
    refine own_fr o6 f2 (fun k hk e => ?_)
    subst e
    rcases ownS_cases o6 with ⟨_, h2, _⟩ | ⟨q, h1, _⟩
    · omega
    · subst h1
      injection hk with hk
      exact own_typed o6 hc6 rfl hk.symm
  · rw [List.length_append]; have := h.rt.le; omega
  · rw [List.drop_append_of_le_length h.rt.le, tsum_snoc]
    show tsum (F.drop g) + (a.size + b.size + 32) ≤ 1000000
    omega
  · simp; omega
  · refine (h.fr.mono (fun k hk _ => .inl hk)).trans ((f.mono (fun k hk _ => ?_)).trans (f2.mono (fun k hk _ => .inl hk)))
    cases A with
    | none => cases hk
    | some x => injection hk with hk; exact .inr ⟨x, rfl, hk⟩
  · intro a3 ha3
    subst ha3
    have hlt := (o6.lt _ rfl).2
    rcases hat with e | e
    · cases A with
      | none => cases e
      | some x => injection e with e; exact .inl ⟨x, rfl, e.symm⟩
    · injection e with e
      have := h.fr.size
      refine .inr ?_
      rw [e]
      show w0.heap.size ≤ (w.alloc o).heap.size
      rw [World.size_alloc]; omega
end
def goneAt (w : World) (p : Nat) : Nat := match w.cell? ⟨p, 2, none⟩ with | some (.int _ m) => m.toNat | _ => 0
theorem goneAt_rt {w : World} {p : Nat} {A : Option Addr} {c M : Nat} {F : List Fd} {g : Nat} (h : Rt w p A c M F g) : goneAt w p = g := by
  unfold goneAt; rw [wrote_cell h.cell 2 _ rfl]; simp

section
variable {w w' : World} {p : Nat} {A : Option Addr} {c M g : Nat} {F : List Fd}
theorem rtx_start (h : Rt w p A c M F g) (a b : ByteArray) : ∀ o W, o = Obj.cells #[.string a, .string b] 28 → Below (w.alloc o).heap.size (w.alloc o) W → RtX w W p w.heap.size a b A c M F g := fun o W ho hB => by
  subst ho
  have bo : Below w.heap.size w (w.alloc (Obj.cells #[.string a, .string b] 28)) := (Below.refl _ w).alloc (Nat.le_refl _) _
  have hlt := h.lt
  refine ⟨(h.below bo).below hB, Fr.of_below (bo.trans (hB.mono (by simp))) _, ⟨?_, ?_⟩, by omega⟩
  · rw [hB.cell (p := ⟨w.heap.size, 0, none⟩) (by simp), World.cell?_alloc_new]; rfl
  · rw [hB.cell (p := ⟨w.heap.size, 1, none⟩) (by simp), World.cell?_alloc_new]; rfl

set_option maxRecDepth 100000 in
set_option maxHeartbeats 2000000 in
theorem rins_no (h : Rt w p A c M F g) (a b : ByteArray) (n : Nat) (hn : a.size + b.size + 32 = n) (hb : n ≤ 1000000) (hm : M < n) : Calls Try.prog 12 #[.pointer (some ⟨p, 0, none⟩), .agg #[.string a, .string b]] w fun e w' => e = .returned (.bool false) ∧ Below w.heap.size w w' := by
  have b1 : decide ((M : Int) < (n : Int)) = true := decide_eq_true (by omega)
  have b1' : decide (M < n) = true := decide_eq_true hm
  have HS := Lib.hid (fun o => ((Below.refl _ w).alloc (Nat.le_refl _) o : Below w.heap.size w (w.alloc o)))
  have hk : Hid (∀ o W, o = Obj.cells #[.string a, .string b] 28 → Below (w.alloc o).heap.size (w.alloc o) W → (W.cell? ⟨w.heap.size, 0, none⟩ = some (.string a) ∧ W.cell? ⟨w.heap.size, 1, none⟩ = some (.string b) ∧ W.cell? ⟨p, 0, none⟩ = some (.int .i64 M)) ∧ Below w.heap.size w W) := Lib.hid (fun o W ho hB => by
    have R := rtx_start h a b o W ho hB
    exact ⟨⟨R.bx.1, R.bx.2, wrote_cell R.rt.cell 0 _ rfl⟩, (HS.out _).trans (hB.mono (by simp))⟩)
  clear h
  go_enter Try.func12, Try.ntmps12
  go_wp2_with fail
  have hS0 := hk.out _ _ rfl (Below.refl _ _)
  obtain ⟨⟨x0, x1, x2⟩, -⟩ := hS0
  go_region_held3 (fun W => W.cell? ⟨w.heap.size, 0, none⟩ = some (.string a) ∧ W.cell? ⟨w.heap.size, 1, none⟩ = some (.string b) ∧ W.cell? ⟨p, 0, none⟩ = some (.int .i64 M)) (first | assumption | go_keep) (first
    | (go_at_call 16; refine (rsize_any a b n _ hn hb).mono ?_; rintro e w3 ⟨rfl, b3⟩; have hS3 := hk.out _ _ rfl ((Still.drew _).below.trans b3); obtain ⟨hS4, bw⟩ := hS3; replace bw := Lib.hid bw))
  go_wp2_with fail
  go_ret
  exact ⟨rfl, bw.out⟩

set_option maxRecDepth 100000 in
set_option maxHeartbeats 8000000 in
theorem rins_yes (h : Rt w p A c M F g) (a b : ByteArray) (n : Nat) (hn : a.size + b.size + 32 = n) (hm : n ≤ M) (hF : F.length < 1000000) (g2 : Nat) (hg2 : g + tcut (M - n) (F.drop g) = g2) : Calls Try.prog 12 #[.pointer (some ⟨p, 0, none⟩), .agg #[.string a, .string b]] w fun e w' => e = .returned (.bool true) ∧ ∃ A' c', Rt w' p A' c' M (F ++ [⟨a, b⟩]) g2 ∧ Fr (OnB p A) w w' ∧ Next w A A' := by
  have hmost := h.most
  have hb : n ≤ 1000000 := by omega
  have b1 : decide ((M : Int) < (n : Int)) = false := decide_eq_false (by omega)
  have b1' : decide (M < n) = false := decide_eq_false (by omega)
  have HR := Lib.hid (rtx_start h a b)
  obtain ⟨N, hN⟩ : ∃ N, F.length = N := ⟨_, rfl⟩
  have hcap := h.cap
  rw [hN] at hcap hF
  have hcap2 := hcap.2
  unfold maxLen at hcap2
  replace hN := Lib.hid hN
  replace hg2 := Lib.hid hg2
  replace hm := Lib.hid hm
  clear h
  have HR0 := HR.out _ _ rfl (Below.refl _ _)
  have x0 := HR0.bx.1
  have x1 := HR0.bx.2
  have x2 := wrote_cell HR0.rt.cell 0 _ rfl
  clear HR0
  go_enter Try.func12, Try.ntmps12
  go_wp2_with fail
  go_region_held3 (fun W => W.cell? ⟨w.heap.size, 0, none⟩ = some (.string a) ∧ W.cell? ⟨w.heap.size, 1, none⟩ = some (.string b) ∧ W.cell? ⟨p, 0, none⟩ = some (.int .i64 M)) (first | assumption | go_keep) (first
    | (go_at_call 16; refine (rsize_any a b n _ hn hb).mono ?_; rintro e w3 ⟨rfl, b3⟩; have R3 := HR.out _ _ rfl ((Still.drew _).below.trans b3); have hS4 : w3.cell? ⟨w.heap.size, 0, none⟩ = some (.string a) ∧ w3.cell? ⟨w.heap.size, 1, none⟩ = some (.string b) ∧ w3.cell? ⟨p, 0, none⟩ = some (.int .i64 M) := ⟨R3.bx.1, R3.bx.2, wrote_cell R3.rt.cell 0 _ rfl⟩; replace R3 := Lib.hid R3))
  clear x0 x1 x2 HR hS4
  go_wp2_with fail
  clear b1 b1'
  go_loopw [] (fun wr => ∃ j gj : Nat, g + j = gj ∧ Hid (RtX w wr p w.heap.size a b A c M F gj) ∧ Hid (gj + tcut (M - n) (F.drop gj) = g2)) (fun wr => N - goneAt wr p)
  case atStart => exact ⟨0, g, rfl, R3, hg2⟩
  case round =>
    clear R3 hg2
    obtain ⟨j, gj, hj, HX, HK⟩ := hrel
    have hle := HX.out.rt.le
    rw [hN.out] at hle
    obtain ⟨u, hu⟩ : ∃ u, tsum (F.drop gj) = u := ⟨_, rfl⟩
    have hub := HX.out.rt.sum
    rw [hu] at hub
    obtain ⟨un, hun⟩ : ∃ un, u + n = un := ⟨_, rfl⟩
    have hunI : (u : Int) + (n : Int) = (un : Int) := by omega
    have hunw : IntKind.i64.wrap (un : Int) = (un : Int) := by rw [IntKind.wrap_i64]; omega
    have RQ := Lib.hid (HX.out.below (Still.drew wr).below)
    have y0 := RQ.out.bx.1
    have y1 := RQ.out.bx.2
    have y2 := wrote_cell RQ.out.rt.cell 0 _ rfl
    have HU := Lib.hid hu
    by_cases hMu : M < un
    · have d1 : decide (M < un) = true := decide_eq_true hMu
      have d1' : decide ((M : Int) < (un : Int)) = true := decide_eq_true (by omega)
      obtain ⟨f0, m, hfm, hKm⟩ := tcut_step (M - n) (F.drop gj) (by have := hm.out; omega)
      have hdrop : F.drop (gj + 1) = m := by rw [← List.drop_drop, hfm]; rfl
      have hgl : gj < N := by have := congrArg List.length hfm; rw [List.length_drop, List.length_cons] at this; have := hN.out; omega
      obtain ⟨g1, hg1⟩ : ∃ g1, gj + 1 = g1 := ⟨_, rfl⟩
      have hg1I : (gj : Int) + 1 = (g1 : Int) := by omega
      have hS1 : tsum (F.drop g1) ≤ 1000000 := by rw [← hg1, hdrop]; have := HX.out.rt.sum; rw [hfm, tsum_cons] at this; omega
      have HK1 : Hid (g1 + tcut (M - n) (F.drop g1) = g2) := Lib.hid (by rw [← hg1, hdrop]; have := HK.out; omega)
      have hgN : g1 ≤ F.length := by rw [hN.out]; omega
      have HM := Lib.hid (goneAt_rt HX.out.rt)
      replace hS1 := Lib.hid hS1
      replace hgN := Lib.hid hgN
      replace hg1 := Lib.hid hg1
      clear hu hun hfm hdrop hKm HK HX hMu
      go_wp2_with fail
      go_region_held3 (fun W => W.cell? ⟨w.heap.size, 0, none⟩ = some (.string a) ∧ W.cell? ⟨w.heap.size, 1, none⟩ = some (.string b) ∧ W.cell? ⟨p, 0, none⟩ = some (.int .i64 M)) (first | assumption | go_keep) (first
        | (go_at_call 16; refine (rsize_any a b n _ hn hb).mono ?_; rintro e w5 ⟨rfl, b5⟩; have R5 := R4.out.below b5; have hS5 : w5.cell? ⟨w.heap.size, 0, none⟩ = some (.string a) ∧ w5.cell? ⟨w.heap.size, 1, none⟩ = some (.string b) ∧ w5.cell? ⟨p, 0, none⟩ = some (.int .i64 M) := ⟨R5.bx.1, R5.bx.2, wrote_cell R5.rt.cell 0 _ rfl⟩; replace R5 := Lib.hid R5)
        | (go_at_call 14; refine (rused_any RQ.out.rt u HU.out).mono ?_; rintro e w4 ⟨rfl, b4⟩; have R4 := RQ.out.below b4; have hS4 : w4.cell? ⟨w.heap.size, 0, none⟩ = some (.string a) ∧ w4.cell? ⟨w.heap.size, 1, none⟩ = some (.string b) ∧ w4.cell? ⟨p, 0, none⟩ = some (.int .i64 M) := ⟨R4.bx.1, R4.bx.2, wrote_cell R4.rt.cell 0 _ rfl⟩; replace R4 := Lib.hid R4))
      have v2 := wrote_cell R5.out.rt.cell 2 _ rfl
      have e2 := frozen_of_row _ p 2 _ _ R5.out.rt.cell
      have R6 := Lib.hid (R5.out.set2 g1 hgN.out hS1.out)
      clear hS4 hS5 y0 y1 y2 hunI hunw R4
      go_wp2_with fail
      go_roundw
      case rel => exact ⟨j + 1, g1, by have := hg1.out; omega, R6, HK1⟩
      case measure => rw [goneAt_rt R6.out.rt, HM.out]; have := hg1.out; omega
    · have d1 : decide (M < un) = false := decide_eq_false hMu
      have d1' : decide ((M : Int) < (un : Int)) = false := decide_eq_false (by omega)
      have hgf : Hid (gj = g2) := Lib.hid (by have := HK.out; rw [tcut_stop _ _ (by have := hm.out; omega)] at this; omega)
      have hsM : Hid (tsum (F.drop gj) + n ≤ M) := Lib.hid (by omega)
      replace hun := Lib.hid hun
      clear hu HK HX hMu
      go_wp2_with fail
      go_region_held3 (fun W => W.cell? ⟨w.heap.size, 0, none⟩ = some (.string a) ∧ W.cell? ⟨w.heap.size, 1, none⟩ = some (.string b) ∧ W.cell? ⟨p, 0, none⟩ = some (.int .i64 M)) (first | assumption | go_keep) (first
        | (go_at_call 16; refine (rsize_any a b n _ hn hb).mono ?_; rintro e w5 ⟨rfl, b5⟩; have R5 := R4.out.below b5; have hS5 : w5.cell? ⟨w.heap.size, 0, none⟩ = some (.string a) ∧ w5.cell? ⟨w.heap.size, 1, none⟩ = some (.string b) ∧ w5.cell? ⟨p, 0, none⟩ = some (.int .i64 M) := ⟨R5.bx.1, R5.bx.2, wrote_cell R5.rt.cell 0 _ rfl⟩; replace R5 := Lib.hid R5)
        | (go_at_call 14; refine (rused_any RQ.out.rt u HU.out).mono ?_; rintro e w4 ⟨rfl, b4⟩; have R4 := RQ.out.below b4; have hS4 : w4.cell? ⟨w.heap.size, 0, none⟩ = some (.string a) ∧ w4.cell? ⟨w.heap.size, 1, none⟩ = some (.string b) ∧ w4.cell? ⟨p, 0, none⟩ = some (.int .i64 M) := ⟨R4.bx.1, R4.bx.2, wrote_cell R4.rt.cell 0 _ rfl⟩; replace R4 := Lib.hid R4))
      clear hS4 hS5 y0 y1 y2 hunI hunw R4 RQ
      have k1 := wrote_cell R5.out.rt.cell 1 _ rfl
      rw [hN.out] at k1
      have z0 := R5.out.bx.1
      have z1 := R5.out.bx.2
      have k1a := fun o => Lib.cell?_alloc_some o k1
      have RW : Hid (w5.ownsRow 0 28 2 (.slice A N c) N (fdv F)) := Lib.hid (by have := R5.out.rt.row; rw [hN.out] at this; exact this)
      go_wp2_with fail
      go_cut [] from 29 to 38 (fun wx => ∃ A3 c3, Hid (Rt wx p A3 c3 M (F ++ [⟨a, b⟩]) g2) ∧ Hid (Fr (OnB p A) w wx) ∧ Hid (Next w A A3))
      case first =>
        go_region_law (first
          | (refine step_appS rfl _ _ 22 rfl 0 28 _ 2 32 infoF Try.underlying22 rfl (by decide) (.slice A N c) N (fdv F) rfl (own_fr RW.out (((Fr.refl NoS w5).alloc _).drew) (fun _ _ x => x)) ⟨w5.heap.size, 0, none⟩ 1 1 [.string a, .string b] rfl rfl ((Rd.fresh_mark w5 [.string a, .string b] _ _).drew).cells (by intro u hu; simp at hu; rcases hu with rfl | rfl <;> rfl) (by unfold maxLen; omega) (by omega) (Nat.zero_le _) ?_; intro A3 c3 w6 o6 g6 hat; have H6 := R5.out.app _ N n hN.out hn hsM.out hF A3 c3 w6 o6 g6 hat; obtain ⟨⟨v3, e3⟩, I6, F6, N6⟩ := H6; rw [hgf.out] at I6; replace I6 := Lib.hid I6; replace F6 := Lib.hid F6; replace N6 := Lib.hid N6; clear o6 g6 hat))
        all_goals (go_wp2_with fail; go_meet; exact ⟨A3, c3, I6, F6, N6⟩)
      case rest =>
        obtain ⟨A3, c3, I3, F3, N3⟩ := hcut
        go_wp2_with fail
        go_ret
        exact ⟨rfl, A3, c3, I3.out, F3.out, N3.out⟩
end
end Go.Proofs.Ytgcnhppafclnmaa
