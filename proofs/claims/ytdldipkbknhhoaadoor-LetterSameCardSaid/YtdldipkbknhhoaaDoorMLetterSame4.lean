/- What the proof of LetterSame stands on, part 4: 4 texts of ours, one behind the other. -/
import Derived.Deep.RegionHeld3
import Derived.Deep.CutRange
import Derived.Deep.Cut
import Derived.Deep.CutBlock
import Derived.OpenShut
import Derived.Deep.SlicePairs
import Derived.SizedLaws
import Derived.ProofKit
import Derived.ChangeOld
import Derived.ChangeSame
import Derived.LaidMore
import Derived.Test.YtdldipkbknhhoaaDoorMLetterSame0
import Derived.Test.YtdldipkbknhhoaaDoorMLetterSame2
import Derived.Test.YtdldipkbknhhoaaDoorMLetterSame3
/- LetterSame: its message is built: the first loop. (Printed by gen_ltS.py.) -/
namespace Go.Proofs.YtdldipkbknhhoaaDoor
open Go.RowKit

section
variable {P : Program} {ops : Array Oper} {Q : Exit → Act → World → Prop} {md : Region.Mode} {S T : World → Prop} {k : Nat}
theorem KeptTill.mono (h : ∀ w, S w → T w) : ∀ (fuel : Nat) (listed : Array Bool) (a : Act) (w : World), KeptTill P md ops Q k S fuel listed a w → KeptTill P md ops Q k T fuel listed a w
  | 0, _, _, _, H => H
  | fuel + 1, _, _, _, H => ⟨H.1, fun i hi => wpOp_mono (fun a' w' h' => ⟨fun e => h _ (h'.1 e), KeptTill.mono h fuel _ a' w' h'.2⟩) (H.2 i hi)⟩
/-- Whatever is ready is walked. -/
def AllKept (P : Program) (md : Region.Mode) (ops : Array Oper) (Q : Exit → Act → World → Prop) (k : Nat) (S : World → Prop) (fuel : Nat) (listed : Array Bool) (a : Act) (w : World) (rs : List Nat) : Prop :=
  ∀ i ∈ rs, wpOp P ops Q i (fun a' w' => ((listed.setIfInBounds i true).getD k true = false → S w') ∧ KeptTill P md ops Q k S fuel (listed.setIfInBounds i true) a' w') a w
theorem AllKept.nil {fuel : Nat} {listed : Array Bool} {a : Act} {w : World} : AllKept P md ops Q k S fuel listed a w [] := fun i h => by cases h
theorem AllKept.cons {i : Nat} {o : Oper} {rs : List Nat} {fuel : Nat} {listed : Array Bool} {a : Act} {w : World} (ho : ops[i]? = some o) (hg : o.guard = none)
    (h : ∀ K : Act → World → Prop, Hid (∀ a' w', S w' → (S w' → KeptTill P md ops Q k S fuel (listed.setIfInBounds i true) a' w') → K a' w') → Oper.wp P o a w K Q) (r : AllKept P md ops Q k S fuel listed a w rs) : AllKept P md ops Q k S fuel listed a w (i :: rs) := fun j hj => by
  rcases List.mem_cons.1 hj with rfl | hj
  · exact KeptTill.step ho hg (fun K hK => h K (Lib.hid (fun a' w' h1 h2 => hK.out a' w' (fun _ => h1) (h2 h1))))
  · exact r j hj
theorem AllKept.last {i : Nat} {o : Oper} {fuel : Nat} {listed : Array Bool} {a : Act} {w : World} (ho : ops[i]? = some o) (hg : o.guard = none) (hk : (listed.setIfInBounds i true).getD k true = true)
    (h : ∀ K : Act → World → Prop, Hid (∀ a' w', KeptTill P md ops Q k S fuel (listed.setIfInBounds i true) a' w' → K a' w') → Oper.wp P o a w K Q) : AllKept P md ops Q k S fuel listed a w [i] := fun j hj => by
  rw [List.mem_singleton.1 hj]
  exact KeptTill.step ho hg (fun K hK => h K (Lib.hid (fun a' w' h1 => hK.out a' w' (fun e => by rw [hk] at e; cases e) h1)))
theorem KeptTill.ready {rs : List Nat} {fuel : Nat} {listed : Array Bool} {a : Act} {w : World} (hr : Region.ready md ops listed = rs) (hne : rs ≠ []) (h : AllKept P md ops Q k S fuel listed a w rs) : KeptTill P md ops Q k S (fuel + 1) listed a w :=
  KeptTill.all hr hne h
end

/-- The message as it is built. -/
structure MS (w : World) (p : Nat) (X : Option Addr) (m x : Nat) (D : List UInt8) (gs : List Fd) (wr : World) (A : Option Addr) (k c : Nat) : Prop where
  row : wr.heap[p]? = some (.cells #[.slice A k c, .slice X m x] 25 (0, 0))
  own : wr.ownsRow w.heap.size 47 2 (.slice A k c) k (fdv (gs.take k))
  rb : Rd wr X (bv D)
  bel : Below w.heap.size w wr
  sz : w.heap.size ≤ p
  np : ∀ q, (Value.slice A k c).ownBlock = some q → q ≠ p ∧ ∀ a, X = some a → q ≠ a.block
  xp : ∀ a, X = some a → a.block < p
theorem MS.lt {w wr : World} {p : Nat} {X : Option Addr} {m x : Nat} {D : List UInt8} {gs : List Fd} {A : Option Addr} {k c : Nat} (h : MS w p X m x D gs wr A k c) : p < wr.heap.size := heap_lt h.row
/-- A field more. -/
theorem MS.step {w wr w5 w6 : World} {p : Nat} {X : Option Addr} {m x : Nat} {D : List UInt8} {gs : List Fd} {A A6 : Option Addr} {k c c6 : Nat} {f : Fd} (h : MS w p X m x D gs wr A k c) (b5 : Below wr.heap.size wr w5) (hf : gs.take (k + 1) = gs.take k ++ [f])
    (o6 : w6.ownsRow w.heap.size 47 2 (.slice A6 (k + 1) c6) (k + 1) (fdv (gs.take k) ++ [.string f.name, .string f.value])) (g6 : w5.grownBy w6 (Value.slice A k c).ownBlock)
    (h6 : (Value.slice A6 (k + 1) c6).ownBlock = (Value.slice A k c).ownBlock ∨ (Value.slice A6 (k + 1) c6).ownBlock = some w5.heap.size) : MS w p X m x D gs (w6.setCell ⟨p, 0, none⟩ (.slice A6 (k + 1) c6)) A6 (k + 1) c6 := by
  have F6 : Fr (fun q => (Value.slice A k c).ownBlock = some q) wr w6 := (Fr.of_below b5 _).grown g6 (fun _ hq _ => hq)
  have hp := h.lt
  have hr6 := heap_fr h.row F6 (fun e => (h.np p e).1 rfl)
  have hn6 : ∀ q, (Value.slice A6 (k + 1) c6).ownBlock = some q → q ≠ p ∧ ∀ a, X = some a → q ≠ a.block := fun q hq => by
    rcases h6 with e | e
    · exact h.np q (by rw [← e]; exact hq)
    · rw [e] at hq
      injection hq with hq
      have hs := b5.size
      exact ⟨by omega, fun a ha => by have := h.xp a ha; omega⟩
  have F7 : Fr (fun q => q = p) w6 (w6.setCell ⟨p, 0, none⟩ (.slice A6 (k + 1) c6)) := (Fr.refl (fun q => q = p) w6).setCell (p := ⟨p, 0, none⟩) (fun _ => rfl) _
  have bel6 : Below w.heap.size w w6 := Fr.under h.bel h.bel.size F6 (fun q hq _ => (h.own.lt q hq).1)
  refine ⟨heap_setCell_same w6 p 0 _ _ _ hr6, ?_, ?_, Fr.under bel6 bel6.size F7 (fun q hq _ => by have := h.sz; omega), h.sz, hn6, h.xp⟩
  · have e : fdv (gs.take k) ++ [.string f.name, .string f.value] = fdv (gs.take (k + 1)) := by rw [hf, fdv_append]; rfl
    rw [← e]
    exact own_fr o6 F7 (fun q hq e => (hn6 q hq).1 e)
  · refine (h.rb.fr F6 (fun _ a ha e => (h.np a.block e).2 a ha rfl)).fr F7 (fun _ a ha e => by have := h.xp a ha; omega)
set_option maxRecDepth 100000 in
set_option maxHeartbeats 8000000 in
theorem ltsame_in (long : Int) (ns : List Int) (A : Option Addr) (cap n : Nat) (w : World) (hbk : BK w) (hn : ns.length = n) (hr : Rd w A (ns.map (Value.int .i64))) (hn3 : n ≤ 3) (L : Nat) (hL : L ≤ 1100)
    (L0 : Hid (∀ W : World, Calls Tryd.prog 18 #[.int .i64 long, .int .i64 1101] W fun e w' => e = .returned (.int .i64 L) ∧ W = w')) :
    Calls Tryd.prog 6 #[.int .i64 long, .slice A n cap] w fun e w' => e = .returned (.bool true) ∧ Below w.heap.size w w' := by
  have GX := Lib.hid (growx_any L long w (by omega))
  have HR := Lib.hid hr
  have Hn := Lib.hid hn
  have d3 : decide ((3 : Int) < (n : Int)) = false := decide_eq_false (by omega)
  clear hr hn
  go_enter Tryd.func6, Tryd.ntmps6
  go_wp2_with fail
  refine (L0.out _).mono ?_
  rintro e w' ⟨rfl, rfl⟩
  go_wp2_with fail
  refine GX.out.mono ?_
  rintro e w1 ⟨D, hD, X, x, rfl, o1, b1⟩
  obtain ⟨p, hp⟩ : ∃ p, w1.heap.size = p := ⟨_, rfl⟩
  obtain ⟨w2, hw2⟩ : ∃ W, w1.alloc (.cells #[.slice none 0 0, .slice X L x] 25) = W := ⟨_, rfl⟩
  have b2 : Below w1.heap.size w1 w2 := by rw [← hw2]; exact (Below.refl _ w1).alloc (Nat.le_refl _) _
  have M0 : Hid (MS w p X L x D (ns.map sfd) w2 none 0 0) := Lib.hid (by
    have h0 := heap_alloc_new w1 (.cells #[.slice none 0 0, .slice X L x] 25)
    rw [hp, hw2] at h0
    refine ⟨h0, World.ownsRow_nil _ _ _ _, (Rd.of_own o1).below b2, b1.trans (b2.mono b1.size), by have := b1.size; omega, (fun q hq => by cases hq), fun a ha => ?_⟩
    rcases own_cases o1 with ⟨e, _⟩ | ⟨g, e, _, hg⟩
    · rw [e] at ha; cases ha
    · rw [e] at ha; injection ha with ha; subst ha; rw [← hp]; exact hg)
  replace hw2 := Lib.hid hw2
  replace hD := Lib.hid hD
  clear o1 b1 b2 GX
  go_wp2_with fail
  rw [hw2.out]
  clear hw2
  replace hp := Lib.hid hp
  go_wp2_with fail
  go_loopw [6] (fun i wr => ∃ (k : Nat) (A4 : Option Addr) (c : Nat), k ≤ n ∧ i = .int .i64 k ∧ Hid (MS w p X L x D (ns.map sfd) wr A4 k c)) (fun i _ => n - (intOf i).toNat)
  case atStart => exact ⟨0, none, 0, by omega, rfl, M0⟩
  case round =>
    clear M0
    obtain ⟨k, A4, c, hk, rfl, HS⟩ := hrel
    by_cases hkn : k < n
    · rename_i aa
      clear aa
      have d0 : decide (k < n) = true := decide_eq_true hkn
      have d1 : decide ((k : Int) < (n : Int)) = true := decide_eq_true (by omega)
      have hlt : k < ns.length := by rw [Hn.out]; exact hkn
      obtain ⟨g, hg⟩ : ∃ g, ns[k] = g := ⟨_, rfl⟩
      obtain ⟨b, off, rfl, hx⟩ := (HR.out.below HS.out.bel).at_ (k := k) (by rw [List.length_map]; exact hlt)
      rw [List.getElem_map, hg] at hx
      have hbw : Hid (b < w.heap.size) := Lib.hid (by obtain ⟨a1, e1, e2⟩ := Rd.lt HR.out (by rw [List.length_map]; omega); injection e1 with e1; subst e1; exact e2)
      have htk : Hid ((ns.map sfd).take (k + 1) = (ns.map sfd).take k ++ [sfd g]) := Lib.hid (by rw [List.take_add_one, List.getElem?_map, List.getElem?_eq_getElem hlt, hg]; rfl)
      obtain ⟨q, hq⟩ : ∃ q, IntKind.i64.wrap (g.tdiv 3) = q := ⟨_, rfl⟩
      obtain ⟨i, hi⟩ : ∃ i, cix g 3 = i := ⟨_, rfl⟩
      obtain ⟨j, hj⟩ : ∃ j, cix q 3 = j := ⟨_, rfl⟩
      have LA : Hid (∀ W : World, Calls Tryd.prog 18 #[.int .i64 g, .int .i64 3] W fun e w' => e = .returned (.int .i64 (cix g 3)) ∧ W = w') := Lib.hid (fun W => cix_any g 3 W (by omega) (by omega))
      have LB : Hid (∀ W : World, Calls Tryd.prog 18 #[.int .i64 q, .int .i64 3] W fun e w' => e = .returned (.int .i64 (cix q 3)) ∧ W = w') := Lib.hid (fun W => cix_any q 3 W (by omega) (by omega))
      have hi3 : cix g 3 < 3 := (cix_bd g 3 (by omega) (by omega)).1
      have hj3 : cix q 3 < 3 := (cix_bd q 3 (by omega) (by omega)).1
      rw [hi] at LA hi3
      rw [hj] at LB hj3
      have hcf : sfd g = ⟨s3n i, s3v j⟩ := by unfold sfd; rw [hq, hi, hj]
      obtain ⟨fa, hfa⟩ : ∃ fa, s3n i = fa := ⟨_, rfl⟩
      obtain ⟨fb, hfb⟩ : ∃ fb, s3v j = fb := ⟨_, rfl⟩
      rw [hfa, hfb] at hcf
      have hN : ∀ W : World, (W.alloc (.cells (s3nl.map Value.string).toArray 9)).cell? ⟨W.heap.size, i, none⟩ = some (.string fa) := fun W => by
        rw [show (W.alloc (.cells (s3nl.map Value.string).toArray 9)).cell? ⟨W.heap.size, i, none⟩ = (s3nl.map Value.string)[i]? from cell_mark W _ _ (0, 0) i, ← hfa]
        unfold s3n
        rw [List.getD_eq_getElem?_getD, List.getElem?_map, List.getElem?_eq_getElem (by exact hi3)]; rfl
      have hV : ∀ W : World, (W.alloc (.cells (s3vl.map Value.string).toArray 9)).cell? ⟨W.heap.size, j, none⟩ = some (.string fb) := fun W => by
        rw [show (W.alloc (.cells (s3vl.map Value.string).toArray 9)).cell? ⟨W.heap.size, j, none⟩ = (s3vl.map Value.string)[j]? from cell_mark W _ _ (0, 0) j, ← hfb]
        unfold s3v
        rw [List.getD_eq_getElem?_getD, List.getElem?_map, List.getElem?_eq_getElem (by exact hj3)]; rfl
      have hN1 : ∀ o : Obj, ((wr.drew.alloc o).alloc (.cells (s3nl.map Value.string).toArray 9)).cell? ⟨wr.heap.size + 1, i, none⟩ = some (.string fa) := fun o => by
        have := hN (wr.drew.alloc o); rwa [World.size_alloc] at this
      have hV1 : ∀ o : Obj, ((wr.drew.alloc o).alloc (.cells (s3vl.map Value.string).toArray 9)).cell? ⟨wr.heap.size + 1, j, none⟩ = some (.string fb) := fun o => by
        have := hV (wr.drew.alloc o); rwa [World.size_alloc] at this
      have hN0 := hN wr.drew
      have hV0 := hV wr.drew
      simp only [s3nl, s3vl, List.map_cons, List.map_nil] at hN1 hV1 hN0 hV0
      clear hN hV
      have hm0 : wr.cell? ⟨p, 0, none⟩ = some (.slice A4 k c) := wrote_cell HS.out.row 0 _ rfl
      have hi0 : (0 : Int) ≤ (i : Int) := by omega
      have hj0 : (0 : Int) ≤ (j : Int) := by omega
      have hiI : (i : Int) < 3 := by omega
      have hjI : (j : Int) < 3 := by omega
      have hk0 : (0 : Int) ≤ (k : Int) := by omega
      replace hi := Lib.hid hi
      replace hj := Lib.hid hj
      replace hfa := Lib.hid hfa
      replace hfb := Lib.hid hfb
      replace hcf := Lib.hid hcf
      replace hg := Lib.hid hg
      have B5 : Hid (∀ o1 o2 o3, Below wr.heap.size wr (((wr.drew.alloc o1).alloc o2).alloc o3)) := Lib.hid (fun o1 o2 o3 => (((((Fr.refl NoS wr).drew).alloc o1).alloc o2).alloc o3).below)
      have HO : Hid (∀ o1 o2 o3, (((wr.drew.alloc o1).alloc o2).alloc o3).ownsRow w.heap.size 47 2 (.slice A4 k c) k (fdv ((ns.map sfd).take k))) := Lib.hid (fun o1 o2 o3 => own_fr HS.out.own (Fr.of_below (B5.out o1 o2 o3) NoS) (fun _ _ x => x))
      have HRec : Hid (∀ o1 o2, Rd (((wr.drew.alloc o1).alloc o2).alloc (.cells #[.string fa, .string fb] 47)) (some ⟨wr.heap.size + 1 + 1, 0, none⟩) [.string fa, .string fb]) := Lib.hid (fun o1 o2 => Rd.fresh_to (by simp only [World.size_alloc, World.drew]) [.string fa, .string fb] _ _)
      have HB3 : Hid (∀ o1 o2 o3, w.heap.size ≤ (((wr.drew.alloc o1).alloc o2).alloc o3).heap.size) := Lib.hid (fun o1 o2 o3 => Nat.le_trans HS.out.bel.size (B5.out o1 o2 o3).size)
      have HF : Hid (∀ A6 c6 w6 o1 o2 o3, w6.ownsRow w.heap.size 47 2 (.slice A6 (k + 1) c6) (k + 1) (fdv ((ns.map sfd).take k) ++ [.string fa, .string fb]) → (((wr.drew.alloc o1).alloc o2).alloc o3).grownBy w6 (Value.slice A4 k c).ownBlock →
          ((Value.slice A6 (k + 1) c6).ownBlock = (Value.slice A4 k c).ownBlock ∨ (Value.slice A6 (k + 1) c6).ownBlock = some (((wr.drew.alloc o1).alloc o2).alloc o3).heap.size) → MS w p X L x D (ns.map sfd) (w6.setCell ⟨p, 0, none⟩ (.slice A6 (k + 1) c6)) A6 (k + 1) c6) := Lib.hid (fun A6 c6 w6 o1 o2 o3 h6 g6 n6 => by
        refine HS.out.step (f := ⟨fa, fb⟩) (B5.out o1 o2 o3) ?_ h6 g6 n6
        rw [htk.out, hcf.out])
      have HFc : Hid (∀ w6 o1 o2 o3, (((wr.drew.alloc o1).alloc o2).alloc o3).grownBy w6 (Value.slice A4 k c).ownBlock → ∀ (a : Addr) (v : Value), (((wr.drew.alloc o1).alloc o2).alloc o3).cell? a = some v → (a.block = b ∨ a.block = p ∨ wr.heap.size ≤ a.block) → w6.cell? a = some v ∧ w6.frozen? a = (((wr.drew.alloc o1).alloc o2).alloc o3).frozen? a) := Lib.hid (fun w6 o1 o2 o3 g6 a v hv hbk => by
        have F6 : Fr (fun q => (Value.slice A4 k c).ownBlock = some q) (((wr.drew.alloc o1).alloc o2).alloc o3) w6 := (Fr.refl _ _).grown g6 (fun _ hq _ => hq)
        have hl := World.block_lt_of_cell? _ _ hv
        have hne : ¬ (Value.slice A4 k c).ownBlock = some a.block := fun e => by
          have h1 := HS.out.own.lt _ e
          have h2 := hbw.out
          have h3 := (HS.out.np _ e).1
          rcases hbk with h | h | h <;> omega
        exact ⟨(F6.cell hl hne).trans hv, F6.frozen hl hne⟩)
      have hfz : Hid (∀ w6 o1 o2 o3, (((wr.drew.alloc o1).alloc o2).alloc o3).grownBy w6 (Value.slice A4 k c).ownBlock → w6.frozen? ⟨p, 0, none⟩ = false) := Lib.hid (fun w6 o1 o2 o3 g6 => by
        have h1 := heap_fr HS.out.row (Fr.of_below (B5.out o1 o2 o3) NoS) (fun x => x)
        have h2 := frozen_of_row _ p 0 _ _ h1
        rw [← h2]
        exact (HFc.out w6 o1 o2 o3 g6 ⟨p, 0, none⟩ _ (wrote_cell h1 0 _ rfl) (.inr (.inl rfl))).2)
      clear htk hcf HS hk hi hj hg hfa hfb
      go_wp2_with fail
      refine wp_region_kept (k := 23) (S := fun W => W.cell? ⟨b, off + k, none⟩ = some (.int .i64 g) ∧ W.cell? ⟨p, 0, none⟩ = some (.slice A4 k c)) (by kernel_rfl) ?_
      have hHeld : wr.drew.cell? ⟨b, off + k, none⟩ = some (.int .i64 g) ∧ wr.drew.cell? ⟨p, 0, none⟩ = some (.slice A4 k c) := ⟨hx, hm0⟩
      refine KeptTill.takeP (i := 0) (v := ?_) rfl (by kernel_rfl) (by kernel_rfl) (by kernel_rfl) (by rfl) (by intro c d u a w h; cases d <;> exact h) (Or.inl ⟨by rfl, ?_⟩) (fun _ => hHeld) ?_
      rotate_left 1
      · (intro w hSw; (try dsimp only at hSw); (try go_split_ands); go_simp; try with_reducible rfl)
      try simp only [Act.put, List.setIfInBounds_toArray, List.set_cons_zero, List.set_cons_succ, List.getElem_toArray, List.getElem_cons_zero, List.getElem_cons_succ]
      refine KeptTill.take (i := 1) (v := ?_) rfl (by kernel_rfl) (by kernel_rfl) (by kernel_rfl) (by rfl) (by rfl) (by kernel_rfl) (by intro c d u a w h; cases d <;> exact h) (Or.inl ⟨by rfl, ?_⟩) hHeld ?_
      rotate_left 1
      · (intro w hSw; (try dsimp only at hSw); (try go_split_ands); go_simp; try with_reducible rfl)
      try simp only [Act.put, List.setIfInBounds_toArray, List.set_cons_zero, List.set_cons_succ, List.getElem_toArray, List.getElem_cons_zero, List.getElem_cons_succ]
      refine KeptTill.takeP (i := 3) (v := ?_) rfl (by kernel_rfl) (by kernel_rfl) (by kernel_rfl) (by rfl) (by intro c d u a w h; cases d <;> exact h) (Or.inl ⟨by rfl, ?_⟩) (fun _ => hHeld) ?_
      rotate_left 1
      · (intro w hSw; (try dsimp only at hSw); (try go_split_ands); go_simp; try with_reducible rfl)
      try simp only [Act.put, List.setIfInBounds_toArray, List.set_cons_zero, List.set_cons_succ, List.getElem_toArray, List.getElem_cons_zero, List.getElem_cons_succ]
      refine KeptTill.takeP (i := 4) (v := ?_) rfl (by kernel_rfl) (by kernel_rfl) (by kernel_rfl) (by rfl) (by intro c d u a w h; cases d <;> exact h) (Or.inl ⟨by rfl, ?_⟩) (fun _ => hHeld) ?_
      rotate_left 1
      · (intro w hSw; (try dsimp only at hSw); (try go_split_ands); go_simp; try with_reducible rfl)
      try simp only [Act.put, List.setIfInBounds_toArray, List.set_cons_zero, List.set_cons_succ, List.getElem_toArray, List.getElem_cons_zero, List.getElem_cons_succ]
      refine KeptTill.takeP (i := 5) (v := ?_) rfl (by kernel_rfl) (by kernel_rfl) (by kernel_rfl) (by rfl) (by intro c d u a w h; cases d <;> exact h) (Or.inl ⟨by rfl, ?_⟩) (fun _ => hHeld) ?_
      rotate_left 1
      · (intro w hSw; (try dsimp only at hSw); (try go_split_ands); go_simp; try with_reducible rfl)
      try simp only [Act.put, List.setIfInBounds_toArray, List.set_cons_zero, List.set_cons_succ, List.getElem_toArray, List.getElem_cons_zero, List.getElem_cons_succ]
      refine KeptTill.take (i := 6) (v := ?_) rfl (by kernel_rfl) (by kernel_rfl) (by kernel_rfl) (by rfl) (by rfl) (by kernel_rfl) (by intro c d u a w h; cases d <;> exact h) (Or.inl ⟨by rfl, ?_⟩) hHeld ?_
      rotate_left 1
      · (intro w hSw; (try dsimp only at hSw); (try go_split_ands); go_simp; try with_reducible rfl)
      try simp only [Act.put, List.setIfInBounds_toArray, List.set_cons_zero, List.set_cons_succ, List.getElem_toArray, List.getElem_cons_zero, List.getElem_cons_succ]
      refine KeptTill.takeP (i := 11) (v := ?_) rfl (by kernel_rfl) (by kernel_rfl) (by kernel_rfl) (by rfl) (by intro c d u a w h; cases d <;> exact h) (Or.inl ⟨by rfl, ?_⟩) (fun _ => hHeld) ?_
      rotate_left 1
      · (intro w hSw; (try dsimp only at hSw); (try go_split_ands); go_simp; try with_reducible rfl)
      try simp only [Act.put, List.setIfInBounds_toArray, List.set_cons_zero, List.set_cons_succ, List.getElem_toArray, List.getElem_cons_zero, List.getElem_cons_succ]
      refine KeptTill.takeP (i := 12) (v := ?_) rfl (by kernel_rfl) (by kernel_rfl) (by kernel_rfl) (by rfl) (by intro c d u a w h; cases d <;> exact h) (Or.inl ⟨by rfl, ?_⟩) (fun _ => hHeld) ?_
      rotate_left 1
      · (intro w hSw; (try dsimp only at hSw); (try go_split_ands); go_simp; try with_reducible rfl)
      try simp only [Act.put, List.setIfInBounds_toArray, List.set_cons_zero, List.set_cons_succ, List.getElem_toArray, List.getElem_cons_zero, List.getElem_cons_succ]
      refine KeptTill.takeP (i := 13) (v := ?_) rfl (by kernel_rfl) (by kernel_rfl) (by kernel_rfl) (by rfl) (by intro c d u a w h; cases d <;> exact h) (Or.inl ⟨by rfl, ?_⟩) (fun _ => hHeld) ?_
      rotate_left 1
      · (intro w hSw; (try dsimp only at hSw); (try go_split_ands); go_simp; try with_reducible rfl)
      try simp only [Act.put, List.setIfInBounds_toArray, List.set_cons_zero, List.set_cons_succ, List.getElem_toArray, List.getElem_cons_zero, List.getElem_cons_succ]
      refine KeptTill.take (i := 14) (v := ?_) rfl (by kernel_rfl) (by kernel_rfl) (by kernel_rfl) (by rfl) (by rfl) (by kernel_rfl) (by intro c d u a w h; cases d <;> exact h) (Or.inl ⟨by rfl, ?_⟩) hHeld ?_
      rotate_left 1
      · (intro w hSw; (try dsimp only at hSw); (try go_split_ands); go_simp; try with_reducible rfl)
      try simp only [Act.put, List.setIfInBounds_toArray, List.set_cons_zero, List.set_cons_succ, List.getElem_toArray, List.getElem_cons_zero, List.getElem_cons_succ]
      refine KeptTill.takeP (i := 15) (v := ?_) rfl (by kernel_rfl) (by kernel_rfl) (by kernel_rfl) (by rfl) (by intro c d u a w h; cases d <;> exact h) (Or.inl ⟨by rfl, ?_⟩) (fun _ => hHeld) ?_
      rotate_left 1
      · (intro w hSw; (try dsimp only at hSw); (try go_split_ands); go_simp; try with_reducible rfl)
      try simp only [Act.put, List.setIfInBounds_toArray, List.set_cons_zero, List.set_cons_succ, List.getElem_toArray, List.getElem_cons_zero, List.getElem_cons_succ]
      refine KeptTill.ready (rs := [2, 7, 10]) (by kernel_rfl) (by simp) ?_
      refine AllKept.cons rfl rfl (fun K hK => ?_) ?_
      · (go_simp)
        refine hK.out _ _ ⟨Lib.cell?_alloc_some _ hHeld.1, Lib.cell?_alloc_some _ hHeld.2⟩ (fun hHeld => ?_)
        clear hK K
        try simp only [Act.put, List.setIfInBounds_toArray, List.set_cons_zero, List.set_cons_succ, List.getElem_toArray, List.getElem_cons_zero, List.getElem_cons_succ]
        refine KeptTill.mono (S := fun W => W.cell? ⟨b, off + k, none⟩ = some (.int .i64 g) ∧ W.cell? ⟨p, 0, none⟩ = some (.slice A4 k c) ∧ W.cell? ⟨wr.heap.size, i, none⟩ = some (.string fa)) (fun W h => ⟨h.1, h.2.1⟩) _ _ _ _ ?_
        replace hHeld := And.intro hHeld.1 (And.intro hHeld.2 (hN0))
        refine KeptTill.ready (rs := [7, 10]) (by kernel_rfl) (by simp) ?_
        refine AllKept.cons rfl rfl (fun K hK => ?_) ?_
        · go_simp; go_at_call 18; refine (LA.out _).mono ?_; rintro e w3 ⟨rfl, rfl⟩
          refine hK.out _ _ hHeld (fun hHeld => ?_)
          clear hK K
          try simp only [Act.put, List.setIfInBounds_toArray, List.set_cons_zero, List.set_cons_succ, List.getElem_toArray, List.getElem_cons_zero, List.getElem_cons_succ]
          refine KeptTill.takeP (i := 8) (v := ?_) rfl (by kernel_rfl) (by kernel_rfl) (by kernel_rfl) (by rfl) (by intro c d u a w h; cases d <;> exact h) (Or.inl ⟨by rfl, ?_⟩) (fun _ => hHeld) ?_
          rotate_left 1
          · (intro w hSw; (try dsimp only at hSw); (try go_split_ands); go_simp; try with_reducible rfl)
          try simp only [Act.put, List.setIfInBounds_toArray, List.set_cons_zero, List.set_cons_succ, List.getElem_toArray, List.getElem_cons_zero, List.getElem_cons_succ]
          refine KeptTill.take (i := 9) (v := ?_) rfl (by kernel_rfl) (by kernel_rfl) (by kernel_rfl) (by rfl) (by rfl) (by kernel_rfl) (by intro c d u a w h; cases d <;> exact h) (Or.inl ⟨by rfl, ?_⟩) hHeld ?_
          rotate_left 1
          · (intro w hSw; (try dsimp only at hSw); (try go_split_ands); go_simp; try with_reducible rfl)
          try simp only [Act.put, List.setIfInBounds_toArray, List.set_cons_zero, List.set_cons_succ, List.getElem_toArray, List.getElem_cons_zero, List.getElem_cons_succ]
          refine KeptTill.ready (rs := [10, 16]) (by kernel_rfl) (by simp) ?_
          refine AllKept.cons rfl rfl (fun K hK => ?_) ?_
          · (go_simp)
            refine hK.out _ _ ⟨Lib.cell?_alloc_some _ hHeld.1, Lib.cell?_alloc_some _ hHeld.2.1, Lib.cell?_alloc_some _ hHeld.2.2⟩ (fun hHeld => ?_)
            clear hK K
            try simp only [Act.put, List.setIfInBounds_toArray, List.set_cons_zero, List.set_cons_succ, List.getElem_toArray, List.getElem_cons_zero, List.getElem_cons_succ]
            refine KeptTill.mono (S := fun W => W.cell? ⟨b, off + k, none⟩ = some (.int .i64 g) ∧ W.cell? ⟨p, 0, none⟩ = some (.slice A4 k c) ∧ W.cell? ⟨wr.heap.size, i, none⟩ = some (.string fa) ∧ W.cell? ⟨wr.heap.size + 1, j, none⟩ = some (.string fb)) (fun W h => ⟨h.1, h.2.1, h.2.2.1⟩) _ _ _ _ ?_
            replace hHeld := And.intro hHeld.1 (And.intro hHeld.2.1 (And.intro hHeld.2.2 (hV1 (.cells #[.string ⟨#[120, 45, 97]⟩, .string ⟨#[58, 112, 97, 116, 104]⟩, .string ⟨#[101, 116, 97, 103]⟩] 9))))
            refine KeptTill.ready (rs := [16]) (by kernel_rfl) (by simp) ?_
            refine AllKept.cons rfl rfl (fun K hK => ?_) ?_
            · go_simp; go_at_call 18; refine (LB.out _).mono ?_; rintro e w3 ⟨rfl, rfl⟩
              refine hK.out _ _ hHeld (fun hHeld => ?_)
              clear hK K
              try simp only [Act.put, List.setIfInBounds_toArray, List.set_cons_zero, List.set_cons_succ, List.getElem_toArray, List.getElem_cons_zero, List.getElem_cons_succ]
              refine KeptTill.takeP (i := 17) (v := ?_) rfl (by kernel_rfl) (by kernel_rfl) (by kernel_rfl) (by rfl) (by intro c d u a w h; cases d <;> exact h) (Or.inl ⟨by rfl, ?_⟩) (fun _ => hHeld) ?_
              rotate_left 1
              · (intro w hSw; (try dsimp only at hSw); (try go_split_ands); go_simp; try with_reducible rfl)
              try simp only [Act.put, List.setIfInBounds_toArray, List.set_cons_zero, List.set_cons_succ, List.getElem_toArray, List.getElem_cons_zero, List.getElem_cons_succ]
              refine KeptTill.take (i := 18) (v := ?_) rfl (by kernel_rfl) (by kernel_rfl) (by kernel_rfl) (by rfl) (by rfl) (by kernel_rfl) (by intro c d u a w h; cases d <;> exact h) (Or.inl ⟨by rfl, ?_⟩) hHeld ?_
              rotate_left 1
              · (intro w hSw; (try dsimp only at hSw); (try go_split_ands); go_simp; try with_reducible rfl)
              try simp only [Act.put, List.setIfInBounds_toArray, List.set_cons_zero, List.set_cons_succ, List.getElem_toArray, List.getElem_cons_zero, List.getElem_cons_succ]
              refine KeptTill.takeP (i := 19) (v := ?_) rfl (by kernel_rfl) (by kernel_rfl) (by kernel_rfl) (by rfl) (by intro c d u a w h; cases d <;> exact h) (Or.inl ⟨by rfl, ?_⟩) (fun _ => hHeld) ?_
              rotate_left 1
              · (intro w hSw; (try dsimp only at hSw); (try go_split_ands); go_simp; try with_reducible rfl)
              try simp only [Act.put, List.setIfInBounds_toArray, List.set_cons_zero, List.set_cons_succ, List.getElem_toArray, List.getElem_cons_zero, List.getElem_cons_succ]
              refine KeptTill.ready (rs := [20]) (by kernel_rfl) (by simp) ?_
              refine AllKept.cons rfl rfl (fun K hK => ?_) AllKept.nil
              go_simp
              refine hK.out _ _ ⟨Lib.cell?_alloc_some _ hHeld.1, Lib.cell?_alloc_some _ hHeld.2.1, Lib.cell?_alloc_some _ hHeld.2.2.1, Lib.cell?_alloc_some _ hHeld.2.2.2⟩ (fun hHeld => ?_)
              clear hK K
              try simp only [Act.put, List.setIfInBounds_toArray, List.set_cons_zero, List.set_cons_succ, List.getElem_toArray, List.getElem_cons_zero, List.getElem_cons_succ]
              refine KeptTill.ready (rs := [21]) (by kernel_rfl) (by simp) ?_
              refine AllKept.cons rfl rfl (fun K hK => ?_) AllKept.nil
              obtain ⟨i0, hi0, hz0, hz1, hz2⟩ := info_parts infoF
              refine wp_appS _ _ 22 rfl w.heap.size 47 i0 _ 2 32 Tryd.underlying22 hi0 hz0 hz1 hz2 rfl (by decide) (.slice A4 k c) k (fdv ((ns.map sfd).take k)) rfl (HO.out _ _ _) ⟨wr.heap.size + 1 + 1, 0, none⟩ 1 1 [.string fa, .string fb] rfl rfl (Rd.cells (HRec.out _ _)) (by intro u hu; rcases List.mem_cons.1 hu with rfl | hu; rfl; rw [List.mem_singleton.1 hu]; rfl) (by unfold maxLen; omega) (by omega) (HB3.out _ _ _) ?_
              intro A6 c6 w6 ho6 hg6 hn6
              have H6 := Lib.hid (HF.out A6 c6 w6 _ _ _ ho6 hg6 hn6)
              have HC6 := HFc.out w6 _ _ _ hg6
              have hz6 := hfz.out w6 _ _ _ hg6
              refine hK.out _ _ ⟨(HC6 _ _ hHeld.1 (.inl rfl)).1, (HC6 _ _ hHeld.2.1 (.inr (.inl rfl))).1, (HC6 _ _ hHeld.2.2.1 (.inr (.inr (Nat.le_refl _)))).1, (HC6 _ _ hHeld.2.2.2 (.inr (.inr (Nat.le_succ _)))).1⟩ (fun hHeld2 => ?_)
              clear hK K hHeld ho6 hg6 HC6 hn6
              try simp only [Act.put, List.setIfInBounds_toArray, List.set_cons_zero, List.set_cons_succ, List.getElem_toArray, List.getElem_cons_zero, List.getElem_cons_succ]
              have hHeld := hHeld2
              refine KeptTill.takeP (i := 22) (v := ?_) rfl (by kernel_rfl) (by kernel_rfl) (by kernel_rfl) (by rfl) (by intro c d u a w h; cases d <;> exact h) (Or.inl ⟨by rfl, ?_⟩) (fun _ => hHeld) ?_
              rotate_left 1
              · (intro w hSw; (try dsimp only at hSw); (try go_split_ands); go_simp; try with_reducible rfl)
              try simp only [Act.put, List.setIfInBounds_toArray, List.set_cons_zero, List.set_cons_succ, List.getElem_toArray, List.getElem_cons_zero, List.getElem_cons_succ]
              have hm6 := hHeld2.2.1
              refine KeptTill.ready (rs := [23]) (by kernel_rfl) (by simp) ?_
              refine AllKept.last rfl rfl (by rfl) (fun K hK => ?_)
              go_simp
              refine hK.out _ _ ?_
              clear hK K hHeld hHeld2 hm6 hz6
              try simp only [Act.put, List.setIfInBounds_toArray, List.set_cons_zero, List.set_cons_succ, List.getElem_toArray, List.getElem_cons_zero, List.getElem_cons_succ]
              refine KeptTill.done (by kernel_rfl) ?_ _
              go_wp2_with fail
              go_roundw
              case rel => exact ⟨k + 1, A6, c6, by omega, by go_num, H6⟩
              case measure => simp only [intOf]; omega
            exact AllKept.nil
          refine AllKept.cons rfl rfl (fun K hK => ?_) ?_
          · go_simp; go_at_call 18; refine (LB.out _).mono ?_; rintro e w3 ⟨rfl, rfl⟩
            refine hK.out _ _ hHeld (fun hHeld => ?_)
            clear hK K
            try simp only [Act.put, List.setIfInBounds_toArray, List.set_cons_zero, List.set_cons_succ, List.getElem_toArray, List.getElem_cons_zero, List.getElem_cons_succ]
            refine KeptTill.ready (rs := [10]) (by kernel_rfl) (by simp) ?_
            refine AllKept.cons rfl rfl (fun K hK => ?_) ?_
            · (go_simp)
              refine hK.out _ _ ⟨Lib.cell?_alloc_some _ hHeld.1, Lib.cell?_alloc_some _ hHeld.2.1, Lib.cell?_alloc_some _ hHeld.2.2⟩ (fun hHeld => ?_)
              clear hK K
              try simp only [Act.put, List.setIfInBounds_toArray, List.set_cons_zero, List.set_cons_succ, List.getElem_toArray, List.getElem_cons_zero, List.getElem_cons_succ]
              refine KeptTill.mono (S := fun W => W.cell? ⟨b, off + k, none⟩ = some (.int .i64 g) ∧ W.cell? ⟨p, 0, none⟩ = some (.slice A4 k c) ∧ W.cell? ⟨wr.heap.size, i, none⟩ = some (.string fa) ∧ W.cell? ⟨wr.heap.size + 1, j, none⟩ = some (.string fb)) (fun W h => ⟨h.1, h.2.1, h.2.2.1⟩) _ _ _ _ ?_
              replace hHeld := And.intro hHeld.1 (And.intro hHeld.2.1 (And.intro hHeld.2.2 (hV1 (.cells #[.string ⟨#[120, 45, 97]⟩, .string ⟨#[58, 112, 97, 116, 104]⟩, .string ⟨#[101, 116, 97, 103]⟩] 9))))
              refine KeptTill.takeP (i := 17) (v := ?_) rfl (by kernel_rfl) (by kernel_rfl) (by kernel_rfl) (by rfl) (by intro c d u a w h; cases d <;> exact h) (Or.inl ⟨by rfl, ?_⟩) (fun _ => hHeld) ?_
              rotate_left 1
              · (intro w hSw; (try dsimp only at hSw); (try go_split_ands); go_simp; try with_reducible rfl)
              try simp only [Act.put, List.setIfInBounds_toArray, List.set_cons_zero, List.set_cons_succ, List.getElem_toArray, List.getElem_cons_zero, List.getElem_cons_succ]
              refine KeptTill.take (i := 18) (v := ?_) rfl (by kernel_rfl) (by kernel_rfl) (by kernel_rfl) (by rfl) (by rfl) (by kernel_rfl) (by intro c d u a w h; cases d <;> exact h) (Or.inl ⟨by rfl, ?_⟩) hHeld ?_
              rotate_left 1
              · (intro w hSw; (try dsimp only at hSw); (try go_split_ands); go_simp; try with_reducible rfl)
              try simp only [Act.put, List.setIfInBounds_toArray, List.set_cons_zero, List.set_cons_succ, List.getElem_toArray, List.getElem_cons_zero, List.getElem_cons_succ]
              refine KeptTill.takeP (i := 19) (v := ?_) rfl (by kernel_rfl) (by kernel_rfl) (by kernel_rfl) (by rfl) (by intro c d u a w h; cases d <;> exact h) (Or.inl ⟨by rfl, ?_⟩) (fun _ => hHeld) ?_
              rotate_left 1
              · (intro w hSw; (try dsimp only at hSw); (try go_split_ands); go_simp; try with_reducible rfl)
              try simp only [Act.put, List.setIfInBounds_toArray, List.set_cons_zero, List.set_cons_succ, List.getElem_toArray, List.getElem_cons_zero, List.getElem_cons_succ]
              refine KeptTill.ready (rs := [20]) (by kernel_rfl) (by simp) ?_
              refine AllKept.cons rfl rfl (fun K hK => ?_) AllKept.nil
              go_simp
              refine hK.out _ _ ⟨Lib.cell?_alloc_some _ hHeld.1, Lib.cell?_alloc_some _ hHeld.2.1, Lib.cell?_alloc_some _ hHeld.2.2.1, Lib.cell?_alloc_some _ hHeld.2.2.2⟩ (fun hHeld => ?_)
              clear hK K
              try simp only [Act.put, List.setIfInBounds_toArray, List.set_cons_zero, List.set_cons_succ, List.getElem_toArray, List.getElem_cons_zero, List.getElem_cons_succ]
              refine KeptTill.ready (rs := [21]) (by kernel_rfl) (by simp) ?_
              refine AllKept.cons rfl rfl (fun K hK => ?_) AllKept.nil
              obtain ⟨i0, hi0, hz0, hz1, hz2⟩ := info_parts infoF
              refine wp_appS _ _ 22 rfl w.heap.size 47 i0 _ 2 32 Tryd.underlying22 hi0 hz0 hz1 hz2 rfl (by decide) (.slice A4 k c) k (fdv ((ns.map sfd).take k)) rfl (HO.out _ _ _) ⟨wr.heap.size + 1 + 1, 0, none⟩ 1 1 [.string fa, .string fb] rfl rfl (Rd.cells (HRec.out _ _)) (by intro u hu; rcases List.mem_cons.1 hu with rfl | hu; rfl; rw [List.mem_singleton.1 hu]; rfl) (by unfold maxLen; omega) (by omega) (HB3.out _ _ _) ?_
              intro A6 c6 w6 ho6 hg6 hn6
              have H6 := Lib.hid (HF.out A6 c6 w6 _ _ _ ho6 hg6 hn6)
              have HC6 := HFc.out w6 _ _ _ hg6
              have hz6 := hfz.out w6 _ _ _ hg6
              refine hK.out _ _ ⟨(HC6 _ _ hHeld.1 (.inl rfl)).1, (HC6 _ _ hHeld.2.1 (.inr (.inl rfl))).1, (HC6 _ _ hHeld.2.2.1 (.inr (.inr (Nat.le_refl _)))).1, (HC6 _ _ hHeld.2.2.2 (.inr (.inr (Nat.le_succ _)))).1⟩ (fun hHeld2 => ?_)
              clear hK K hHeld ho6 hg6 HC6 hn6
              try simp only [Act.put, List.setIfInBounds_toArray, List.set_cons_zero, List.set_cons_succ, List.getElem_toArray, List.getElem_cons_zero, List.getElem_cons_succ]
              have hHeld := hHeld2
              refine KeptTill.takeP (i := 22) (v := ?_) rfl (by kernel_rfl) (by kernel_rfl) (by kernel_rfl) (by rfl) (by intro c d u a w h; cases d <;> exact h) (Or.inl ⟨by rfl, ?_⟩) (fun _ => hHeld) ?_
              rotate_left 1
              · (intro w hSw; (try dsimp only at hSw); (try go_split_ands); go_simp; try with_reducible rfl)
              try simp only [Act.put, List.setIfInBounds_toArray, List.set_cons_zero, List.set_cons_succ, List.getElem_toArray, List.getElem_cons_zero, List.getElem_cons_succ]
              have hm6 := hHeld2.2.1
              refine KeptTill.ready (rs := [23]) (by kernel_rfl) (by simp) ?_
              refine AllKept.last rfl rfl (by rfl) (fun K hK => ?_)
              go_simp
              refine hK.out _ _ ?_
              clear hK K hHeld hHeld2 hm6 hz6
              try simp only [Act.put, List.setIfInBounds_toArray, List.set_cons_zero, List.set_cons_succ, List.getElem_toArray, List.getElem_cons_zero, List.getElem_cons_succ]
              refine KeptTill.done (by kernel_rfl) ?_ _
              go_wp2_with fail
              go_roundw
              case rel => exact ⟨k + 1, A6, c6, by omega, by go_num, H6⟩
              case measure => simp only [intOf]; omega
            exact AllKept.nil
          exact AllKept.nil
        refine AllKept.cons rfl rfl (fun K hK => ?_) ?_
        · (go_simp)
          refine hK.out _ _ ⟨Lib.cell?_alloc_some _ hHeld.1, Lib.cell?_alloc_some _ hHeld.2.1, Lib.cell?_alloc_some _ hHeld.2.2⟩ (fun hHeld => ?_)
          clear hK K
          try simp only [Act.put, List.setIfInBounds_toArray, List.set_cons_zero, List.set_cons_succ, List.getElem_toArray, List.getElem_cons_zero, List.getElem_cons_succ]
          refine KeptTill.mono (S := fun W => W.cell? ⟨b, off + k, none⟩ = some (.int .i64 g) ∧ W.cell? ⟨p, 0, none⟩ = some (.slice A4 k c) ∧ W.cell? ⟨wr.heap.size, i, none⟩ = some (.string fa) ∧ W.cell? ⟨wr.heap.size + 1, j, none⟩ = some (.string fb)) (fun W h => ⟨h.1, h.2.1, h.2.2.1⟩) _ _ _ _ ?_
          replace hHeld := And.intro hHeld.1 (And.intro hHeld.2.1 (And.intro hHeld.2.2 (hV1 (.cells #[.string ⟨#[120, 45, 97]⟩, .string ⟨#[58, 112, 97, 116, 104]⟩, .string ⟨#[101, 116, 97, 103]⟩] 9))))
          refine KeptTill.ready (rs := [7]) (by kernel_rfl) (by simp) ?_
          refine AllKept.cons rfl rfl (fun K hK => ?_) ?_
          · go_simp; go_at_call 18; refine (LA.out _).mono ?_; rintro e w3 ⟨rfl, rfl⟩
            refine hK.out _ _ hHeld (fun hHeld => ?_)
            clear hK K
            try simp only [Act.put, List.setIfInBounds_toArray, List.set_cons_zero, List.set_cons_succ, List.getElem_toArray, List.getElem_cons_zero, List.getElem_cons_succ]
            refine KeptTill.takeP (i := 8) (v := ?_) rfl (by kernel_rfl) (by kernel_rfl) (by kernel_rfl) (by rfl) (by intro c d u a w h; cases d <;> exact h) (Or.inl ⟨by rfl, ?_⟩) (fun _ => hHeld) ?_
            rotate_left 1
            · (intro w hSw; (try dsimp only at hSw); (try go_split_ands); go_simp; try with_reducible rfl)
            try simp only [Act.put, List.setIfInBounds_toArray, List.set_cons_zero, List.set_cons_succ, List.getElem_toArray, List.getElem_cons_zero, List.getElem_cons_succ]
            refine KeptTill.take (i := 9) (v := ?_) rfl (by kernel_rfl) (by kernel_rfl) (by kernel_rfl) (by rfl) (by rfl) (by kernel_rfl) (by intro c d u a w h; cases d <;> exact h) (Or.inl ⟨by rfl, ?_⟩) hHeld ?_
            rotate_left 1
            · (intro w hSw; (try dsimp only at hSw); (try go_split_ands); go_simp; try with_reducible rfl)
            try simp only [Act.put, List.setIfInBounds_toArray, List.set_cons_zero, List.set_cons_succ, List.getElem_toArray, List.getElem_cons_zero, List.getElem_cons_succ]
            refine KeptTill.ready (rs := [16]) (by kernel_rfl) (by simp) ?_
            refine AllKept.cons rfl rfl (fun K hK => ?_) ?_
            · go_simp; go_at_call 18; refine (LB.out _).mono ?_; rintro e w3 ⟨rfl, rfl⟩
              refine hK.out _ _ hHeld (fun hHeld => ?_)
              clear hK K
              try simp only [Act.put, List.setIfInBounds_toArray, List.set_cons_zero, List.set_cons_succ, List.getElem_toArray, List.getElem_cons_zero, List.getElem_cons_succ]
              refine KeptTill.takeP (i := 17) (v := ?_) rfl (by kernel_rfl) (by kernel_rfl) (by kernel_rfl) (by rfl) (by intro c d u a w h; cases d <;> exact h) (Or.inl ⟨by rfl, ?_⟩) (fun _ => hHeld) ?_
              rotate_left 1
              · (intro w hSw; (try dsimp only at hSw); (try go_split_ands); go_simp; try with_reducible rfl)
              try simp only [Act.put, List.setIfInBounds_toArray, List.set_cons_zero, List.set_cons_succ, List.getElem_toArray, List.getElem_cons_zero, List.getElem_cons_succ]
              refine KeptTill.take (i := 18) (v := ?_) rfl (by kernel_rfl) (by kernel_rfl) (by kernel_rfl) (by rfl) (by rfl) (by kernel_rfl) (by intro c d u a w h; cases d <;> exact h) (Or.inl ⟨by rfl, ?_⟩) hHeld ?_
              rotate_left 1
              · (intro w hSw; (try dsimp only at hSw); (try go_split_ands); go_simp; try with_reducible rfl)
              try simp only [Act.put, List.setIfInBounds_toArray, List.set_cons_zero, List.set_cons_succ, List.getElem_toArray, List.getElem_cons_zero, List.getElem_cons_succ]
              refine KeptTill.takeP (i := 19) (v := ?_) rfl (by kernel_rfl) (by kernel_rfl) (by kernel_rfl) (by rfl) (by intro c d u a w h; cases d <;> exact h) (Or.inl ⟨by rfl, ?_⟩) (fun _ => hHeld) ?_
              rotate_left 1
              · (intro w hSw; (try dsimp only at hSw); (try go_split_ands); go_simp; try with_reducible rfl)
              try simp only [Act.put, List.setIfInBounds_toArray, List.set_cons_zero, List.set_cons_succ, List.getElem_toArray, List.getElem_cons_zero, List.getElem_cons_succ]
              refine KeptTill.ready (rs := [20]) (by kernel_rfl) (by simp) ?_
              refine AllKept.cons rfl rfl (fun K hK => ?_) AllKept.nil
              go_simp
              refine hK.out _ _ ⟨Lib.cell?_alloc_some _ hHeld.1, Lib.cell?_alloc_some _ hHeld.2.1, Lib.cell?_alloc_some _ hHeld.2.2.1, Lib.cell?_alloc_some _ hHeld.2.2.2⟩ (fun hHeld => ?_)
              clear hK K
              try simp only [Act.put, List.setIfInBounds_toArray, List.set_cons_zero, List.set_cons_succ, List.getElem_toArray, List.getElem_cons_zero, List.getElem_cons_succ]
              refine KeptTill.ready (rs := [21]) (by kernel_rfl) (by simp) ?_
              refine AllKept.cons rfl rfl (fun K hK => ?_) AllKept.nil
              obtain ⟨i0, hi0, hz0, hz1, hz2⟩ := info_parts infoF
              refine wp_appS _ _ 22 rfl w.heap.size 47 i0 _ 2 32 Tryd.underlying22 hi0 hz0 hz1 hz2 rfl (by decide) (.slice A4 k c) k (fdv ((ns.map sfd).take k)) rfl (HO.out _ _ _) ⟨wr.heap.size + 1 + 1, 0, none⟩ 1 1 [.string fa, .string fb] rfl rfl (Rd.cells (HRec.out _ _)) (by intro u hu; rcases List.mem_cons.1 hu with rfl | hu; rfl; rw [List.mem_singleton.1 hu]; rfl) (by unfold maxLen; omega) (by omega) (HB3.out _ _ _) ?_
              intro A6 c6 w6 ho6 hg6 hn6
              have H6 := Lib.hid (HF.out A6 c6 w6 _ _ _ ho6 hg6 hn6)
              have HC6 := HFc.out w6 _ _ _ hg6
              have hz6 := hfz.out w6 _ _ _ hg6
              refine hK.out _ _ ⟨(HC6 _ _ hHeld.1 (.inl rfl)).1, (HC6 _ _ hHeld.2.1 (.inr (.inl rfl))).1, (HC6 _ _ hHeld.2.2.1 (.inr (.inr (Nat.le_refl _)))).1, (HC6 _ _ hHeld.2.2.2 (.inr (.inr (Nat.le_succ _)))).1⟩ (fun hHeld2 => ?_)
              clear hK K hHeld ho6 hg6 HC6 hn6
              try simp only [Act.put, List.setIfInBounds_toArray, List.set_cons_zero, List.set_cons_succ, List.getElem_toArray, List.getElem_cons_zero, List.getElem_cons_succ]
              have hHeld := hHeld2
              refine KeptTill.takeP (i := 22) (v := ?_) rfl (by kernel_rfl) (by kernel_rfl) (by kernel_rfl) (by rfl) (by intro c d u a w h; cases d <;> exact h) (Or.inl ⟨by rfl, ?_⟩) (fun _ => hHeld) ?_
              rotate_left 1
              · (intro w hSw; (try dsimp only at hSw); (try go_split_ands); go_simp; try with_reducible rfl)
              try simp only [Act.put, List.setIfInBounds_toArray, List.set_cons_zero, List.set_cons_succ, List.getElem_toArray, List.getElem_cons_zero, List.getElem_cons_succ]
              have hm6 := hHeld2.2.1
              refine KeptTill.ready (rs := [23]) (by kernel_rfl) (by simp) ?_
              refine AllKept.last rfl rfl (by rfl) (fun K hK => ?_)
              go_simp
              refine hK.out _ _ ?_
              clear hK K hHeld hHeld2 hm6 hz6
              try simp only [Act.put, List.setIfInBounds_toArray, List.set_cons_zero, List.set_cons_succ, List.getElem_toArray, List.getElem_cons_zero, List.getElem_cons_succ]
              refine KeptTill.done (by kernel_rfl) ?_ _
              go_wp2_with fail
              go_roundw
              case rel => exact ⟨k + 1, A6, c6, by omega, by go_num, H6⟩
              case measure => simp only [intOf]; omega
            exact AllKept.nil
          exact AllKept.nil
        exact AllKept.nil
      refine AllKept.cons rfl rfl (fun K hK => ?_) ?_
      · go_simp; go_at_call 18; refine (LA.out _).mono ?_; rintro e w3 ⟨rfl, rfl⟩
        refine hK.out _ _ hHeld (fun hHeld => ?_)
        clear hK K
        try simp only [Act.put, List.setIfInBounds_toArray, List.set_cons_zero, List.set_cons_succ, List.getElem_toArray, List.getElem_cons_zero, List.getElem_cons_succ]
        refine KeptTill.ready (rs := [2, 10, 16]) (by kernel_rfl) (by simp) ?_
        refine AllKept.cons rfl rfl (fun K hK => ?_) ?_
        · (go_simp)
          refine hK.out _ _ ⟨Lib.cell?_alloc_some _ hHeld.1, Lib.cell?_alloc_some _ hHeld.2⟩ (fun hHeld => ?_)
          clear hK K
          try simp only [Act.put, List.setIfInBounds_toArray, List.set_cons_zero, List.set_cons_succ, List.getElem_toArray, List.getElem_cons_zero, List.getElem_cons_succ]
          refine KeptTill.mono (S := fun W => W.cell? ⟨b, off + k, none⟩ = some (.int .i64 g) ∧ W.cell? ⟨p, 0, none⟩ = some (.slice A4 k c) ∧ W.cell? ⟨wr.heap.size, i, none⟩ = some (.string fa)) (fun W h => ⟨h.1, h.2.1⟩) _ _ _ _ ?_
          replace hHeld := And.intro hHeld.1 (And.intro hHeld.2 (hN0))
          refine KeptTill.takeP (i := 8) (v := ?_) rfl (by kernel_rfl) (by kernel_rfl) (by kernel_rfl) (by rfl) (by intro c d u a w h; cases d <;> exact h) (Or.inl ⟨by rfl, ?_⟩) (fun _ => hHeld) ?_
          rotate_left 1
          · (intro w hSw; (try dsimp only at hSw); (try go_split_ands); go_simp; try with_reducible rfl)
          try simp only [Act.put, List.setIfInBounds_toArray, List.set_cons_zero, List.set_cons_succ, List.getElem_toArray, List.getElem_cons_zero, List.getElem_cons_succ]
          refine KeptTill.take (i := 9) (v := ?_) rfl (by kernel_rfl) (by kernel_rfl) (by kernel_rfl) (by rfl) (by rfl) (by kernel_rfl) (by intro c d u a w h; cases d <;> exact h) (Or.inl ⟨by rfl, ?_⟩) hHeld ?_
          rotate_left 1
          · (intro w hSw; (try dsimp only at hSw); (try go_split_ands); go_simp; try with_reducible rfl)
          try simp only [Act.put, List.setIfInBounds_toArray, List.set_cons_zero, List.set_cons_succ, List.getElem_toArray, List.getElem_cons_zero, List.getElem_cons_succ]
          refine KeptTill.ready (rs := [10, 16]) (by kernel_rfl) (by simp) ?_
          refine AllKept.cons rfl rfl (fun K hK => ?_) ?_
          · (go_simp)
            refine hK.out _ _ ⟨Lib.cell?_alloc_some _ hHeld.1, Lib.cell?_alloc_some _ hHeld.2.1, Lib.cell?_alloc_some _ hHeld.2.2⟩ (fun hHeld => ?_)
            clear hK K
            try simp only [Act.put, List.setIfInBounds_toArray, List.set_cons_zero, List.set_cons_succ, List.getElem_toArray, List.getElem_cons_zero, List.getElem_cons_succ]
            refine KeptTill.mono (S := fun W => W.cell? ⟨b, off + k, none⟩ = some (.int .i64 g) ∧ W.cell? ⟨p, 0, none⟩ = some (.slice A4 k c) ∧ W.cell? ⟨wr.heap.size, i, none⟩ = some (.string fa) ∧ W.cell? ⟨wr.heap.size + 1, j, none⟩ = some (.string fb)) (fun W h => ⟨h.1, h.2.1, h.2.2.1⟩) _ _ _ _ ?_
            replace hHeld := And.intro hHeld.1 (And.intro hHeld.2.1 (And.intro hHeld.2.2 (hV1 (.cells #[.string ⟨#[120, 45, 97]⟩, .string ⟨#[58, 112, 97, 116, 104]⟩, .string ⟨#[101, 116, 97, 103]⟩] 9))))
            refine KeptTill.ready (rs := [16]) (by kernel_rfl) (by simp) ?_
            refine AllKept.cons rfl rfl (fun K hK => ?_) ?_
            · go_simp; go_at_call 18; refine (LB.out _).mono ?_; rintro e w3 ⟨rfl, rfl⟩
              refine hK.out _ _ hHeld (fun hHeld => ?_)
              clear hK K
              try simp only [Act.put, List.setIfInBounds_toArray, List.set_cons_zero, List.set_cons_succ, List.getElem_toArray, List.getElem_cons_zero, List.getElem_cons_succ]
              refine KeptTill.takeP (i := 17) (v := ?_) rfl (by kernel_rfl) (by kernel_rfl) (by kernel_rfl) (by rfl) (by intro c d u a w h; cases d <;> exact h) (Or.inl ⟨by rfl, ?_⟩) (fun _ => hHeld) ?_
              rotate_left 1
              · (intro w hSw; (try dsimp only at hSw); (try go_split_ands); go_simp; try with_reducible rfl)
              try simp only [Act.put, List.setIfInBounds_toArray, List.set_cons_zero, List.set_cons_succ, List.getElem_toArray, List.getElem_cons_zero, List.getElem_cons_succ]
              refine KeptTill.take (i := 18) (v := ?_) rfl (by kernel_rfl) (by kernel_rfl) (by kernel_rfl) (by rfl) (by rfl) (by kernel_rfl) (by intro c d u a w h; cases d <;> exact h) (Or.inl ⟨by rfl, ?_⟩) hHeld ?_
              rotate_left 1
              · (intro w hSw; (try dsimp only at hSw); (try go_split_ands); go_simp; try with_reducible rfl)
              try simp only [Act.put, List.setIfInBounds_toArray, List.set_cons_zero, List.set_cons_succ, List.getElem_toArray, List.getElem_cons_zero, List.getElem_cons_succ]
              refine KeptTill.takeP (i := 19) (v := ?_) rfl (by kernel_rfl) (by kernel_rfl) (by kernel_rfl) (by rfl) (by intro c d u a w h; cases d <;> exact h) (Or.inl ⟨by rfl, ?_⟩) (fun _ => hHeld) ?_
              rotate_left 1
              · (intro w hSw; (try dsimp only at hSw); (try go_split_ands); go_simp; try with_reducible rfl)
              try simp only [Act.put, List.setIfInBounds_toArray, List.set_cons_zero, List.set_cons_succ, List.getElem_toArray, List.getElem_cons_zero, List.getElem_cons_succ]
              refine KeptTill.ready (rs := [20]) (by kernel_rfl) (by simp) ?_
              refine AllKept.cons rfl rfl (fun K hK => ?_) AllKept.nil
              go_simp
              refine hK.out _ _ ⟨Lib.cell?_alloc_some _ hHeld.1, Lib.cell?_alloc_some _ hHeld.2.1, Lib.cell?_alloc_some _ hHeld.2.2.1, Lib.cell?_alloc_some _ hHeld.2.2.2⟩ (fun hHeld => ?_)
              clear hK K
              try simp only [Act.put, List.setIfInBounds_toArray, List.set_cons_zero, List.set_cons_succ, List.getElem_toArray, List.getElem_cons_zero, List.getElem_cons_succ]
              refine KeptTill.ready (rs := [21]) (by kernel_rfl) (by simp) ?_
              refine AllKept.cons rfl rfl (fun K hK => ?_) AllKept.nil
              obtain ⟨i0, hi0, hz0, hz1, hz2⟩ := info_parts infoF
              refine wp_appS _ _ 22 rfl w.heap.size 47 i0 _ 2 32 Tryd.underlying22 hi0 hz0 hz1 hz2 rfl (by decide) (.slice A4 k c) k (fdv ((ns.map sfd).take k)) rfl (HO.out _ _ _) ⟨wr.heap.size + 1 + 1, 0, none⟩ 1 1 [.string fa, .string fb] rfl rfl (Rd.cells (HRec.out _ _)) (by intro u hu; rcases List.mem_cons.1 hu with rfl | hu; rfl; rw [List.mem_singleton.1 hu]; rfl) (by unfold maxLen; omega) (by omega) (HB3.out _ _ _) ?_
              intro A6 c6 w6 ho6 hg6 hn6
              have H6 := Lib.hid (HF.out A6 c6 w6 _ _ _ ho6 hg6 hn6)
              have HC6 := HFc.out w6 _ _ _ hg6
              have hz6 := hfz.out w6 _ _ _ hg6
              refine hK.out _ _ ⟨(HC6 _ _ hHeld.1 (.inl rfl)).1, (HC6 _ _ hHeld.2.1 (.inr (.inl rfl))).1, (HC6 _ _ hHeld.2.2.1 (.inr (.inr (Nat.le_refl _)))).1, (HC6 _ _ hHeld.2.2.2 (.inr (.inr (Nat.le_succ _)))).1⟩ (fun hHeld2 => ?_)
              clear hK K hHeld ho6 hg6 HC6 hn6
              try simp only [Act.put, List.setIfInBounds_toArray, List.set_cons_zero, List.set_cons_succ, List.getElem_toArray, List.getElem_cons_zero, List.getElem_cons_succ]
              have hHeld := hHeld2
              refine KeptTill.takeP (i := 22) (v := ?_) rfl (by kernel_rfl) (by kernel_rfl) (by kernel_rfl) (by rfl) (by intro c d u a w h; cases d <;> exact h) (Or.inl ⟨by rfl, ?_⟩) (fun _ => hHeld) ?_
              rotate_left 1
              · (intro w hSw; (try dsimp only at hSw); (try go_split_ands); go_simp; try with_reducible rfl)
              try simp only [Act.put, List.setIfInBounds_toArray, List.set_cons_zero, List.set_cons_succ, List.getElem_toArray, List.getElem_cons_zero, List.getElem_cons_succ]
              have hm6 := hHeld2.2.1
              refine KeptTill.ready (rs := [23]) (by kernel_rfl) (by simp) ?_
              refine AllKept.last rfl rfl (by rfl) (fun K hK => ?_)
              go_simp
              refine hK.out _ _ ?_
              clear hK K hHeld hHeld2 hm6 hz6
              try simp only [Act.put, List.setIfInBounds_toArray, List.set_cons_zero, List.set_cons_succ, List.getElem_toArray, List.getElem_cons_zero, List.getElem_cons_succ]
              refine KeptTill.done (by kernel_rfl) ?_ _
              go_wp2_with fail
              go_roundw
              case rel => exact ⟨k + 1, A6, c6, by omega, by go_num, H6⟩
              case measure => simp only [intOf]; omega
            exact AllKept.nil
          refine AllKept.cons rfl rfl (fun K hK => ?_) ?_
          · go_simp; go_at_call 18; refine (LB.out _).mono ?_; rintro e w3 ⟨rfl, rfl⟩
            refine hK.out _ _ hHeld (fun hHeld => ?_)
            clear hK K
            try simp only [Act.put, List.setIfInBounds_toArray, List.set_cons_zero, List.set_cons_succ, List.getElem_toArray, List.getElem_cons_zero, List.getElem_cons_succ]
            refine KeptTill.ready (rs := [10]) (by kernel_rfl) (by simp) ?_
            refine AllKept.cons rfl rfl (fun K hK => ?_) ?_
            · (go_simp)
              refine hK.out _ _ ⟨Lib.cell?_alloc_some _ hHeld.1, Lib.cell?_alloc_some _ hHeld.2.1, Lib.cell?_alloc_some _ hHeld.2.2⟩ (fun hHeld => ?_)
              clear hK K
              try simp only [Act.put, List.setIfInBounds_toArray, List.set_cons_zero, List.set_cons_succ, List.getElem_toArray, List.getElem_cons_zero, List.getElem_cons_succ]
              refine KeptTill.mono (S := fun W => W.cell? ⟨b, off + k, none⟩ = some (.int .i64 g) ∧ W.cell? ⟨p, 0, none⟩ = some (.slice A4 k c) ∧ W.cell? ⟨wr.heap.size, i, none⟩ = some (.string fa) ∧ W.cell? ⟨wr.heap.size + 1, j, none⟩ = some (.string fb)) (fun W h => ⟨h.1, h.2.1, h.2.2.1⟩) _ _ _ _ ?_
              replace hHeld := And.intro hHeld.1 (And.intro hHeld.2.1 (And.intro hHeld.2.2 (hV1 (.cells #[.string ⟨#[120, 45, 97]⟩, .string ⟨#[58, 112, 97, 116, 104]⟩, .string ⟨#[101, 116, 97, 103]⟩] 9))))
              refine KeptTill.takeP (i := 17) (v := ?_) rfl (by kernel_rfl) (by kernel_rfl) (by kernel_rfl) (by rfl) (by intro c d u a w h; cases d <;> exact h) (Or.inl ⟨by rfl, ?_⟩) (fun _ => hHeld) ?_
              rotate_left 1
              · (intro w hSw; (try dsimp only at hSw); (try go_split_ands); go_simp; try with_reducible rfl)
              try simp only [Act.put, List.setIfInBounds_toArray, List.set_cons_zero, List.set_cons_succ, List.getElem_toArray, List.getElem_cons_zero, List.getElem_cons_succ]
              refine KeptTill.take (i := 18) (v := ?_) rfl (by kernel_rfl) (by kernel_rfl) (by kernel_rfl) (by rfl) (by rfl) (by kernel_rfl) (by intro c d u a w h; cases d <;> exact h) (Or.inl ⟨by rfl, ?_⟩) hHeld ?_
              rotate_left 1
              · (intro w hSw; (try dsimp only at hSw); (try go_split_ands); go_simp; try with_reducible rfl)
              try simp only [Act.put, List.setIfInBounds_toArray, List.set_cons_zero, List.set_cons_succ, List.getElem_toArray, List.getElem_cons_zero, List.getElem_cons_succ]
              refine KeptTill.takeP (i := 19) (v := ?_) rfl (by kernel_rfl) (by kernel_rfl) (by kernel_rfl) (by rfl) (by intro c d u a w h; cases d <;> exact h) (Or.inl ⟨by rfl, ?_⟩) (fun _ => hHeld) ?_
              rotate_left 1
              · (intro w hSw; (try dsimp only at hSw); (try go_split_ands); go_simp; try with_reducible rfl)
              try simp only [Act.put, List.setIfInBounds_toArray, List.set_cons_zero, List.set_cons_succ, List.getElem_toArray, List.getElem_cons_zero, List.getElem_cons_succ]
              refine KeptTill.ready (rs := [20]) (by kernel_rfl) (by simp) ?_
              refine AllKept.cons rfl rfl (fun K hK => ?_) AllKept.nil
              go_simp
              refine hK.out _ _ ⟨Lib.cell?_alloc_some _ hHeld.1, Lib.cell?_alloc_some _ hHeld.2.1, Lib.cell?_alloc_some _ hHeld.2.2.1, Lib.cell?_alloc_some _ hHeld.2.2.2⟩ (fun hHeld => ?_)
              clear hK K
              try simp only [Act.put, List.setIfInBounds_toArray, List.set_cons_zero, List.set_cons_succ, List.getElem_toArray, List.getElem_cons_zero, List.getElem_cons_succ]
              refine KeptTill.ready (rs := [21]) (by kernel_rfl) (by simp) ?_
              refine AllKept.cons rfl rfl (fun K hK => ?_) AllKept.nil
              obtain ⟨i0, hi0, hz0, hz1, hz2⟩ := info_parts infoF
              refine wp_appS _ _ 22 rfl w.heap.size 47 i0 _ 2 32 Tryd.underlying22 hi0 hz0 hz1 hz2 rfl (by decide) (.slice A4 k c) k (fdv ((ns.map sfd).take k)) rfl (HO.out _ _ _) ⟨wr.heap.size + 1 + 1, 0, none⟩ 1 1 [.string fa, .string fb] rfl rfl (Rd.cells (HRec.out _ _)) (by intro u hu; rcases List.mem_cons.1 hu with rfl | hu; rfl; rw [List.mem_singleton.1 hu]; rfl) (by unfold maxLen; omega) (by omega) (HB3.out _ _ _) ?_
              intro A6 c6 w6 ho6 hg6 hn6
              have H6 := Lib.hid (HF.out A6 c6 w6 _ _ _ ho6 hg6 hn6)
              have HC6 := HFc.out w6 _ _ _ hg6
              have hz6 := hfz.out w6 _ _ _ hg6
              refine hK.out _ _ ⟨(HC6 _ _ hHeld.1 (.inl rfl)).1, (HC6 _ _ hHeld.2.1 (.inr (.inl rfl))).1, (HC6 _ _ hHeld.2.2.1 (.inr (.inr (Nat.le_refl _)))).1, (HC6 _ _ hHeld.2.2.2 (.inr (.inr (Nat.le_succ _)))).1⟩ (fun hHeld2 => ?_)
              clear hK K hHeld ho6 hg6 HC6 hn6
              try simp only [Act.put, List.setIfInBounds_toArray, List.set_cons_zero, List.set_cons_succ, List.getElem_toArray, List.getElem_cons_zero, List.getElem_cons_succ]
              have hHeld := hHeld2
              refine KeptTill.takeP (i := 22) (v := ?_) rfl (by kernel_rfl) (by kernel_rfl) (by kernel_rfl) (by rfl) (by intro c d u a w h; cases d <;> exact h) (Or.inl ⟨by rfl, ?_⟩) (fun _ => hHeld) ?_
              rotate_left 1
              · (intro w hSw; (try dsimp only at hSw); (try go_split_ands); go_simp; try with_reducible rfl)
              try simp only [Act.put, List.setIfInBounds_toArray, List.set_cons_zero, List.set_cons_succ, List.getElem_toArray, List.getElem_cons_zero, List.getElem_cons_succ]
              have hm6 := hHeld2.2.1
              refine KeptTill.ready (rs := [23]) (by kernel_rfl) (by simp) ?_
              refine AllKept.last rfl rfl (by rfl) (fun K hK => ?_)
              go_simp
              refine hK.out _ _ ?_
              clear hK K hHeld hHeld2 hm6 hz6
              try simp only [Act.put, List.setIfInBounds_toArray, List.set_cons_zero, List.set_cons_succ, List.getElem_toArray, List.getElem_cons_zero, List.getElem_cons_succ]
              refine KeptTill.done (by kernel_rfl) ?_ _
              go_wp2_with fail
              go_roundw
              case rel => exact ⟨k + 1, A6, c6, by omega, by go_num, H6⟩
              case measure => simp only [intOf]; omega
            exact AllKept.nil
          exact AllKept.nil
        refine AllKept.cons rfl rfl (fun K hK => ?_) ?_
        · (go_simp)
          refine hK.out _ _ ⟨Lib.cell?_alloc_some _ hHeld.1, Lib.cell?_alloc_some _ hHeld.2⟩ (fun hHeld => ?_)
          clear hK K
          try simp only [Act.put, List.setIfInBounds_toArray, List.set_cons_zero, List.set_cons_succ, List.getElem_toArray, List.getElem_cons_zero, List.getElem_cons_succ]
          refine KeptTill.mono (S := fun W => W.cell? ⟨b, off + k, none⟩ = some (.int .i64 g) ∧ W.cell? ⟨p, 0, none⟩ = some (.slice A4 k c) ∧ W.cell? ⟨wr.heap.size, j, none⟩ = some (.string fb)) (fun W h => ⟨h.1, h.2.1⟩) _ _ _ _ ?_
          replace hHeld := And.intro hHeld.1 (And.intro hHeld.2 (hV0))
          refine KeptTill.ready (rs := [2, 16]) (by kernel_rfl) (by simp) ?_
          refine AllKept.cons rfl rfl (fun K hK => ?_) ?_
          · (go_simp)
            refine hK.out _ _ ⟨Lib.cell?_alloc_some _ hHeld.1, Lib.cell?_alloc_some _ hHeld.2.1, Lib.cell?_alloc_some _ hHeld.2.2⟩ (fun hHeld => ?_)
            clear hK K
            try simp only [Act.put, List.setIfInBounds_toArray, List.set_cons_zero, List.set_cons_succ, List.getElem_toArray, List.getElem_cons_zero, List.getElem_cons_succ]
            refine KeptTill.mono (S := fun W => W.cell? ⟨b, off + k, none⟩ = some (.int .i64 g) ∧ W.cell? ⟨p, 0, none⟩ = some (.slice A4 k c) ∧ W.cell? ⟨wr.heap.size, j, none⟩ = some (.string fb) ∧ W.cell? ⟨wr.heap.size + 1, i, none⟩ = some (.string fa)) (fun W h => ⟨h.1, h.2.1, h.2.2.1⟩) _ _ _ _ ?_
            replace hHeld := And.intro hHeld.1 (And.intro hHeld.2.1 (And.intro hHeld.2.2 (hN1 (.cells #[.string ⟨#[]⟩, .string ⟨#[47]⟩, .string ⟨#[97, 98, 99]⟩] 9))))
            refine KeptTill.takeP (i := 8) (v := ?_) rfl (by kernel_rfl) (by kernel_rfl) (by kernel_rfl) (by rfl) (by intro c d u a w h; cases d <;> exact h) (Or.inl ⟨by rfl, ?_⟩) (fun _ => hHeld) ?_
            rotate_left 1
            · (intro w hSw; (try dsimp only at hSw); (try go_split_ands); go_simp; try with_reducible rfl)
            try simp only [Act.put, List.setIfInBounds_toArray, List.set_cons_zero, List.set_cons_succ, List.getElem_toArray, List.getElem_cons_zero, List.getElem_cons_succ]
            refine KeptTill.take (i := 9) (v := ?_) rfl (by kernel_rfl) (by kernel_rfl) (by kernel_rfl) (by rfl) (by rfl) (by kernel_rfl) (by intro c d u a w h; cases d <;> exact h) (Or.inl ⟨by rfl, ?_⟩) hHeld ?_
            rotate_left 1
            · (intro w hSw; (try dsimp only at hSw); (try go_split_ands); go_simp; try with_reducible rfl)
            try simp only [Act.put, List.setIfInBounds_toArray, List.set_cons_zero, List.set_cons_succ, List.getElem_toArray, List.getElem_cons_zero, List.getElem_cons_succ]
            refine KeptTill.ready (rs := [16]) (by kernel_rfl) (by simp) ?_
            refine AllKept.cons rfl rfl (fun K hK => ?_) ?_
            · go_simp; go_at_call 18; refine (LB.out _).mono ?_; rintro e w3 ⟨rfl, rfl⟩
              refine hK.out _ _ hHeld (fun hHeld => ?_)
              clear hK K
              try simp only [Act.put, List.setIfInBounds_toArray, List.set_cons_zero, List.set_cons_succ, List.getElem_toArray, List.getElem_cons_zero, List.getElem_cons_succ]
              refine KeptTill.takeP (i := 17) (v := ?_) rfl (by kernel_rfl) (by kernel_rfl) (by kernel_rfl) (by rfl) (by intro c d u a w h; cases d <;> exact h) (Or.inl ⟨by rfl, ?_⟩) (fun _ => hHeld) ?_
              rotate_left 1
              · (intro w hSw; (try dsimp only at hSw); (try go_split_ands); go_simp; try with_reducible rfl)
              try simp only [Act.put, List.setIfInBounds_toArray, List.set_cons_zero, List.set_cons_succ, List.getElem_toArray, List.getElem_cons_zero, List.getElem_cons_succ]
              refine KeptTill.take (i := 18) (v := ?_) rfl (by kernel_rfl) (by kernel_rfl) (by kernel_rfl) (by rfl) (by rfl) (by kernel_rfl) (by intro c d u a w h; cases d <;> exact h) (Or.inl ⟨by rfl, ?_⟩) hHeld ?_
              rotate_left 1
              · (intro w hSw; (try dsimp only at hSw); (try go_split_ands); go_simp; try with_reducible rfl)
              try simp only [Act.put, List.setIfInBounds_toArray, List.set_cons_zero, List.set_cons_succ, List.getElem_toArray, List.getElem_cons_zero, List.getElem_cons_succ]
              refine KeptTill.takeP (i := 19) (v := ?_) rfl (by kernel_rfl) (by kernel_rfl) (by kernel_rfl) (by rfl) (by intro c d u a w h; cases d <;> exact h) (Or.inl ⟨by rfl, ?_⟩) (fun _ => hHeld) ?_
              rotate_left 1
              · (intro w hSw; (try dsimp only at hSw); (try go_split_ands); go_simp; try with_reducible rfl)
              try simp only [Act.put, List.setIfInBounds_toArray, List.set_cons_zero, List.set_cons_succ, List.getElem_toArray, List.getElem_cons_zero, List.getElem_cons_succ]
              refine KeptTill.ready (rs := [20]) (by kernel_rfl) (by simp) ?_
              refine AllKept.cons rfl rfl (fun K hK => ?_) AllKept.nil
              go_simp
              refine hK.out _ _ ⟨Lib.cell?_alloc_some _ hHeld.1, Lib.cell?_alloc_some _ hHeld.2.1, Lib.cell?_alloc_some _ hHeld.2.2.1, Lib.cell?_alloc_some _ hHeld.2.2.2⟩ (fun hHeld => ?_)
              clear hK K
              try simp only [Act.put, List.setIfInBounds_toArray, List.set_cons_zero, List.set_cons_succ, List.getElem_toArray, List.getElem_cons_zero, List.getElem_cons_succ]
              refine KeptTill.ready (rs := [21]) (by kernel_rfl) (by simp) ?_
              refine AllKept.cons rfl rfl (fun K hK => ?_) AllKept.nil
              obtain ⟨i0, hi0, hz0, hz1, hz2⟩ := info_parts infoF
              refine wp_appS _ _ 22 rfl w.heap.size 47 i0 _ 2 32 Tryd.underlying22 hi0 hz0 hz1 hz2 rfl (by decide) (.slice A4 k c) k (fdv ((ns.map sfd).take k)) rfl (HO.out _ _ _) ⟨wr.heap.size + 1 + 1, 0, none⟩ 1 1 [.string fa, .string fb] rfl rfl (Rd.cells (HRec.out _ _)) (by intro u hu; rcases List.mem_cons.1 hu with rfl | hu; rfl; rw [List.mem_singleton.1 hu]; rfl) (by unfold maxLen; omega) (by omega) (HB3.out _ _ _) ?_
              intro A6 c6 w6 ho6 hg6 hn6
              have H6 := Lib.hid (HF.out A6 c6 w6 _ _ _ ho6 hg6 hn6)
              have HC6 := HFc.out w6 _ _ _ hg6
              have hz6 := hfz.out w6 _ _ _ hg6
              refine hK.out _ _ ⟨(HC6 _ _ hHeld.1 (.inl rfl)).1, (HC6 _ _ hHeld.2.1 (.inr (.inl rfl))).1, (HC6 _ _ hHeld.2.2.1 (.inr (.inr (Nat.le_refl _)))).1, (HC6 _ _ hHeld.2.2.2 (.inr (.inr (Nat.le_succ _)))).1⟩ (fun hHeld2 => ?_)
              clear hK K hHeld ho6 hg6 HC6 hn6
              try simp only [Act.put, List.setIfInBounds_toArray, List.set_cons_zero, List.set_cons_succ, List.getElem_toArray, List.getElem_cons_zero, List.getElem_cons_succ]
              have hHeld := hHeld2
              refine KeptTill.takeP (i := 22) (v := ?_) rfl (by kernel_rfl) (by kernel_rfl) (by kernel_rfl) (by rfl) (by intro c d u a w h; cases d <;> exact h) (Or.inl ⟨by rfl, ?_⟩) (fun _ => hHeld) ?_
              rotate_left 1
              · (intro w hSw; (try dsimp only at hSw); (try go_split_ands); go_simp; try with_reducible rfl)
              try simp only [Act.put, List.setIfInBounds_toArray, List.set_cons_zero, List.set_cons_succ, List.getElem_toArray, List.getElem_cons_zero, List.getElem_cons_succ]
              have hm6 := hHeld2.2.1
              refine KeptTill.ready (rs := [23]) (by kernel_rfl) (by simp) ?_
              refine AllKept.last rfl rfl (by rfl) (fun K hK => ?_)
              go_simp
              refine hK.out _ _ ?_
              clear hK K hHeld hHeld2 hm6 hz6
              try simp only [Act.put, List.setIfInBounds_toArray, List.set_cons_zero, List.set_cons_succ, List.getElem_toArray, List.getElem_cons_zero, List.getElem_cons_succ]
              refine KeptTill.done (by kernel_rfl) ?_ _
              go_wp2_with fail
              go_roundw
              case rel => exact ⟨k + 1, A6, c6, by omega, by go_num, H6⟩
              case measure => simp only [intOf]; omega
            exact AllKept.nil
          refine AllKept.cons rfl rfl (fun K hK => ?_) ?_
          · go_simp; go_at_call 18; refine (LB.out _).mono ?_; rintro e w3 ⟨rfl, rfl⟩
            refine hK.out _ _ hHeld (fun hHeld => ?_)
            clear hK K
            try simp only [Act.put, List.setIfInBounds_toArray, List.set_cons_zero, List.set_cons_succ, List.getElem_toArray, List.getElem_cons_zero, List.getElem_cons_succ]
            refine KeptTill.takeP (i := 17) (v := ?_) rfl (by kernel_rfl) (by kernel_rfl) (by kernel_rfl) (by rfl) (by intro c d u a w h; cases d <;> exact h) (Or.inl ⟨by rfl, ?_⟩) (fun _ => hHeld) ?_
            rotate_left 1
            · (intro w hSw; (try dsimp only at hSw); (try go_split_ands); go_simp; try with_reducible rfl)
            try simp only [Act.put, List.setIfInBounds_toArray, List.set_cons_zero, List.set_cons_succ, List.getElem_toArray, List.getElem_cons_zero, List.getElem_cons_succ]
            refine KeptTill.take (i := 18) (v := ?_) rfl (by kernel_rfl) (by kernel_rfl) (by kernel_rfl) (by rfl) (by rfl) (by kernel_rfl) (by intro c d u a w h; cases d <;> exact h) (Or.inl ⟨by rfl, ?_⟩) hHeld ?_
            rotate_left 1
            · (intro w hSw; (try dsimp only at hSw); (try go_split_ands); go_simp; try with_reducible rfl)
            try simp only [Act.put, List.setIfInBounds_toArray, List.set_cons_zero, List.set_cons_succ, List.getElem_toArray, List.getElem_cons_zero, List.getElem_cons_succ]
            refine KeptTill.ready (rs := [2]) (by kernel_rfl) (by simp) ?_
            refine AllKept.cons rfl rfl (fun K hK => ?_) ?_
            · (go_simp)
              refine hK.out _ _ ⟨Lib.cell?_alloc_some _ hHeld.1, Lib.cell?_alloc_some _ hHeld.2.1, Lib.cell?_alloc_some _ hHeld.2.2⟩ (fun hHeld => ?_)
              clear hK K
              try simp only [Act.put, List.setIfInBounds_toArray, List.set_cons_zero, List.set_cons_succ, List.getElem_toArray, List.getElem_cons_zero, List.getElem_cons_succ]
              refine KeptTill.mono (S := fun W => W.cell? ⟨b, off + k, none⟩ = some (.int .i64 g) ∧ W.cell? ⟨p, 0, none⟩ = some (.slice A4 k c) ∧ W.cell? ⟨wr.heap.size, j, none⟩ = some (.string fb) ∧ W.cell? ⟨wr.heap.size + 1, i, none⟩ = some (.string fa)) (fun W h => ⟨h.1, h.2.1, h.2.2.1⟩) _ _ _ _ ?_
              replace hHeld := And.intro hHeld.1 (And.intro hHeld.2.1 (And.intro hHeld.2.2 (hN1 (.cells #[.string ⟨#[]⟩, .string ⟨#[47]⟩, .string ⟨#[97, 98, 99]⟩] 9))))
              refine KeptTill.takeP (i := 8) (v := ?_) rfl (by kernel_rfl) (by kernel_rfl) (by kernel_rfl) (by rfl) (by intro c d u a w h; cases d <;> exact h) (Or.inl ⟨by rfl, ?_⟩) (fun _ => hHeld) ?_
              rotate_left 1
              · (intro w hSw; (try dsimp only at hSw); (try go_split_ands); go_simp; try with_reducible rfl)
              try simp only [Act.put, List.setIfInBounds_toArray, List.set_cons_zero, List.set_cons_succ, List.getElem_toArray, List.getElem_cons_zero, List.getElem_cons_succ]
              refine KeptTill.take (i := 9) (v := ?_) rfl (by kernel_rfl) (by kernel_rfl) (by kernel_rfl) (by rfl) (by rfl) (by kernel_rfl) (by intro c d u a w h; cases d <;> exact h) (Or.inl ⟨by rfl, ?_⟩) hHeld ?_
              rotate_left 1
              · (intro w hSw; (try dsimp only at hSw); (try go_split_ands); go_simp; try with_reducible rfl)
              try simp only [Act.put, List.setIfInBounds_toArray, List.set_cons_zero, List.set_cons_succ, List.getElem_toArray, List.getElem_cons_zero, List.getElem_cons_succ]
              refine KeptTill.takeP (i := 19) (v := ?_) rfl (by kernel_rfl) (by kernel_rfl) (by kernel_rfl) (by rfl) (by intro c d u a w h; cases d <;> exact h) (Or.inl ⟨by rfl, ?_⟩) (fun _ => hHeld) ?_
              rotate_left 1
              · (intro w hSw; (try dsimp only at hSw); (try go_split_ands); go_simp; try with_reducible rfl)
              try simp only [Act.put, List.setIfInBounds_toArray, List.set_cons_zero, List.set_cons_succ, List.getElem_toArray, List.getElem_cons_zero, List.getElem_cons_succ]
              refine KeptTill.ready (rs := [20]) (by kernel_rfl) (by simp) ?_
              refine AllKept.cons rfl rfl (fun K hK => ?_) AllKept.nil
              go_simp
              refine hK.out _ _ ⟨Lib.cell?_alloc_some _ hHeld.1, Lib.cell?_alloc_some _ hHeld.2.1, Lib.cell?_alloc_some _ hHeld.2.2.1, Lib.cell?_alloc_some _ hHeld.2.2.2⟩ (fun hHeld => ?_)
              clear hK K
              try simp only [Act.put, List.setIfInBounds_toArray, List.set_cons_zero, List.set_cons_succ, List.getElem_toArray, List.getElem_cons_zero, List.getElem_cons_succ]
              refine KeptTill.ready (rs := [21]) (by kernel_rfl) (by simp) ?_
              refine AllKept.cons rfl rfl (fun K hK => ?_) AllKept.nil
              obtain ⟨i0, hi0, hz0, hz1, hz2⟩ := info_parts infoF
              refine wp_appS _ _ 22 rfl w.heap.size 47 i0 _ 2 32 Tryd.underlying22 hi0 hz0 hz1 hz2 rfl (by decide) (.slice A4 k c) k (fdv ((ns.map sfd).take k)) rfl (HO.out _ _ _) ⟨wr.heap.size + 1 + 1, 0, none⟩ 1 1 [.string fa, .string fb] rfl rfl (Rd.cells (HRec.out _ _)) (by intro u hu; rcases List.mem_cons.1 hu with rfl | hu; rfl; rw [List.mem_singleton.1 hu]; rfl) (by unfold maxLen; omega) (by omega) (HB3.out _ _ _) ?_
              intro A6 c6 w6 ho6 hg6 hn6
              have H6 := Lib.hid (HF.out A6 c6 w6 _ _ _ ho6 hg6 hn6)
              have HC6 := HFc.out w6 _ _ _ hg6
              have hz6 := hfz.out w6 _ _ _ hg6
              refine hK.out _ _ ⟨(HC6 _ _ hHeld.1 (.inl rfl)).1, (HC6 _ _ hHeld.2.1 (.inr (.inl rfl))).1, (HC6 _ _ hHeld.2.2.1 (.inr (.inr (Nat.le_refl _)))).1, (HC6 _ _ hHeld.2.2.2 (.inr (.inr (Nat.le_succ _)))).1⟩ (fun hHeld2 => ?_)
              clear hK K hHeld ho6 hg6 HC6 hn6
              try simp only [Act.put, List.setIfInBounds_toArray, List.set_cons_zero, List.set_cons_succ, List.getElem_toArray, List.getElem_cons_zero, List.getElem_cons_succ]
              have hHeld := hHeld2
              refine KeptTill.takeP (i := 22) (v := ?_) rfl (by kernel_rfl) (by kernel_rfl) (by kernel_rfl) (by rfl) (by intro c d u a w h; cases d <;> exact h) (Or.inl ⟨by rfl, ?_⟩) (fun _ => hHeld) ?_
              rotate_left 1
              · (intro w hSw; (try dsimp only at hSw); (try go_split_ands); go_simp; try with_reducible rfl)
              try simp only [Act.put, List.setIfInBounds_toArray, List.set_cons_zero, List.set_cons_succ, List.getElem_toArray, List.getElem_cons_zero, List.getElem_cons_succ]
              have hm6 := hHeld2.2.1
              refine KeptTill.ready (rs := [23]) (by kernel_rfl) (by simp) ?_
              refine AllKept.last rfl rfl (by rfl) (fun K hK => ?_)
              go_simp
              refine hK.out _ _ ?_
              clear hK K hHeld hHeld2 hm6 hz6
              try simp only [Act.put, List.setIfInBounds_toArray, List.set_cons_zero, List.set_cons_succ, List.getElem_toArray, List.getElem_cons_zero, List.getElem_cons_succ]
              refine KeptTill.done (by kernel_rfl) ?_ _
              go_wp2_with fail
              go_roundw
              case rel => exact ⟨k + 1, A6, c6, by omega, by go_num, H6⟩
              case measure => simp only [intOf]; omega
            exact AllKept.nil
          exact AllKept.nil
        refine AllKept.cons rfl rfl (fun K hK => ?_) ?_
        · go_simp; go_at_call 18; refine (LB.out _).mono ?_; rintro e w3 ⟨rfl, rfl⟩
          refine hK.out _ _ hHeld (fun hHeld => ?_)
          clear hK K
          try simp only [Act.put, List.setIfInBounds_toArray, List.set_cons_zero, List.set_cons_succ, List.getElem_toArray, List.getElem_cons_zero, List.getElem_cons_succ]
          refine KeptTill.ready (rs := [2, 10]) (by kernel_rfl) (by simp) ?_
          refine AllKept.cons rfl rfl (fun K hK => ?_) ?_
          · (go_simp)
            refine hK.out _ _ ⟨Lib.cell?_alloc_some _ hHeld.1, Lib.cell?_alloc_some _ hHeld.2⟩ (fun hHeld => ?_)
            clear hK K
            try simp only [Act.put, List.setIfInBounds_toArray, List.set_cons_zero, List.set_cons_succ, List.getElem_toArray, List.getElem_cons_zero, List.getElem_cons_succ]
            refine KeptTill.mono (S := fun W => W.cell? ⟨b, off + k, none⟩ = some (.int .i64 g) ∧ W.cell? ⟨p, 0, none⟩ = some (.slice A4 k c) ∧ W.cell? ⟨wr.heap.size, i, none⟩ = some (.string fa)) (fun W h => ⟨h.1, h.2.1⟩) _ _ _ _ ?_
            replace hHeld := And.intro hHeld.1 (And.intro hHeld.2 (hN0))
            refine KeptTill.takeP (i := 8) (v := ?_) rfl (by kernel_rfl) (by kernel_rfl) (by kernel_rfl) (by rfl) (by intro c d u a w h; cases d <;> exact h) (Or.inl ⟨by rfl, ?_⟩) (fun _ => hHeld) ?_
            rotate_left 1
            · (intro w hSw; (try dsimp only at hSw); (try go_split_ands); go_simp; try with_reducible rfl)
            try simp only [Act.put, List.setIfInBounds_toArray, List.set_cons_zero, List.set_cons_succ, List.getElem_toArray, List.getElem_cons_zero, List.getElem_cons_succ]
            refine KeptTill.take (i := 9) (v := ?_) rfl (by kernel_rfl) (by kernel_rfl) (by kernel_rfl) (by rfl) (by rfl) (by kernel_rfl) (by intro c d u a w h; cases d <;> exact h) (Or.inl ⟨by rfl, ?_⟩) hHeld ?_
            rotate_left 1
            · (intro w hSw; (try dsimp only at hSw); (try go_split_ands); go_simp; try with_reducible rfl)
            try simp only [Act.put, List.setIfInBounds_toArray, List.set_cons_zero, List.set_cons_succ, List.getElem_toArray, List.getElem_cons_zero, List.getElem_cons_succ]
            refine KeptTill.ready (rs := [10]) (by kernel_rfl) (by simp) ?_
            refine AllKept.cons rfl rfl (fun K hK => ?_) ?_
            · (go_simp)
              refine hK.out _ _ ⟨Lib.cell?_alloc_some _ hHeld.1, Lib.cell?_alloc_some _ hHeld.2.1, Lib.cell?_alloc_some _ hHeld.2.2⟩ (fun hHeld => ?_)
              clear hK K
              try simp only [Act.put, List.setIfInBounds_toArray, List.set_cons_zero, List.set_cons_succ, List.getElem_toArray, List.getElem_cons_zero, List.getElem_cons_succ]
              refine KeptTill.mono (S := fun W => W.cell? ⟨b, off + k, none⟩ = some (.int .i64 g) ∧ W.cell? ⟨p, 0, none⟩ = some (.slice A4 k c) ∧ W.cell? ⟨wr.heap.size, i, none⟩ = some (.string fa) ∧ W.cell? ⟨wr.heap.size + 1, j, none⟩ = some (.string fb)) (fun W h => ⟨h.1, h.2.1, h.2.2.1⟩) _ _ _ _ ?_
              replace hHeld := And.intro hHeld.1 (And.intro hHeld.2.1 (And.intro hHeld.2.2 (hV1 (.cells #[.string ⟨#[120, 45, 97]⟩, .string ⟨#[58, 112, 97, 116, 104]⟩, .string ⟨#[101, 116, 97, 103]⟩] 9))))
              refine KeptTill.takeP (i := 17) (v := ?_) rfl (by kernel_rfl) (by kernel_rfl) (by kernel_rfl) (by rfl) (by intro c d u a w h; cases d <;> exact h) (Or.inl ⟨by rfl, ?_⟩) (fun _ => hHeld) ?_
              rotate_left 1
              · (intro w hSw; (try dsimp only at hSw); (try go_split_ands); go_simp; try with_reducible rfl)
              try simp only [Act.put, List.setIfInBounds_toArray, List.set_cons_zero, List.set_cons_succ, List.getElem_toArray, List.getElem_cons_zero, List.getElem_cons_succ]
              refine KeptTill.take (i := 18) (v := ?_) rfl (by kernel_rfl) (by kernel_rfl) (by kernel_rfl) (by rfl) (by rfl) (by kernel_rfl) (by intro c d u a w h; cases d <;> exact h) (Or.inl ⟨by rfl, ?_⟩) hHeld ?_
              rotate_left 1
              · (intro w hSw; (try dsimp only at hSw); (try go_split_ands); go_simp; try with_reducible rfl)
              try simp only [Act.put, List.setIfInBounds_toArray, List.set_cons_zero, List.set_cons_succ, List.getElem_toArray, List.getElem_cons_zero, List.getElem_cons_succ]
              refine KeptTill.takeP (i := 19) (v := ?_) rfl (by kernel_rfl) (by kernel_rfl) (by kernel_rfl) (by rfl) (by intro c d u a w h; cases d <;> exact h) (Or.inl ⟨by rfl, ?_⟩) (fun _ => hHeld) ?_
              rotate_left 1
              · (intro w hSw; (try dsimp only at hSw); (try go_split_ands); go_simp; try with_reducible rfl)
              try simp only [Act.put, List.setIfInBounds_toArray, List.set_cons_zero, List.set_cons_succ, List.getElem_toArray, List.getElem_cons_zero, List.getElem_cons_succ]
              refine KeptTill.ready (rs := [20]) (by kernel_rfl) (by simp) ?_
              refine AllKept.cons rfl rfl (fun K hK => ?_) AllKept.nil
              go_simp
              refine hK.out _ _ ⟨Lib.cell?_alloc_some _ hHeld.1, Lib.cell?_alloc_some _ hHeld.2.1, Lib.cell?_alloc_some _ hHeld.2.2.1, Lib.cell?_alloc_some _ hHeld.2.2.2⟩ (fun hHeld => ?_)
              clear hK K
              try simp only [Act.put, List.setIfInBounds_toArray, List.set_cons_zero, List.set_cons_succ, List.getElem_toArray, List.getElem_cons_zero, List.getElem_cons_succ]
              refine KeptTill.ready (rs := [21]) (by kernel_rfl) (by simp) ?_
              refine AllKept.cons rfl rfl (fun K hK => ?_) AllKept.nil
              obtain ⟨i0, hi0, hz0, hz1, hz2⟩ := info_parts infoF
              refine wp_appS _ _ 22 rfl w.heap.size 47 i0 _ 2 32 Tryd.underlying22 hi0 hz0 hz1 hz2 rfl (by decide) (.slice A4 k c) k (fdv ((ns.map sfd).take k)) rfl (HO.out _ _ _) ⟨wr.heap.size + 1 + 1, 0, none⟩ 1 1 [.string fa, .string fb] rfl rfl (Rd.cells (HRec.out _ _)) (by intro u hu; rcases List.mem_cons.1 hu with rfl | hu; rfl; rw [List.mem_singleton.1 hu]; rfl) (by unfold maxLen; omega) (by omega) (HB3.out _ _ _) ?_
              intro A6 c6 w6 ho6 hg6 hn6
              have H6 := Lib.hid (HF.out A6 c6 w6 _ _ _ ho6 hg6 hn6)
              have HC6 := HFc.out w6 _ _ _ hg6
              have hz6 := hfz.out w6 _ _ _ hg6
              refine hK.out _ _ ⟨(HC6 _ _ hHeld.1 (.inl rfl)).1, (HC6 _ _ hHeld.2.1 (.inr (.inl rfl))).1, (HC6 _ _ hHeld.2.2.1 (.inr (.inr (Nat.le_refl _)))).1, (HC6 _ _ hHeld.2.2.2 (.inr (.inr (Nat.le_succ _)))).1⟩ (fun hHeld2 => ?_)
              clear hK K hHeld ho6 hg6 HC6 hn6
              try simp only [Act.put, List.setIfInBounds_toArray, List.set_cons_zero, List.set_cons_succ, List.getElem_toArray, List.getElem_cons_zero, List.getElem_cons_succ]
              have hHeld := hHeld2
              refine KeptTill.takeP (i := 22) (v := ?_) rfl (by kernel_rfl) (by kernel_rfl) (by kernel_rfl) (by rfl) (by intro c d u a w h; cases d <;> exact h) (Or.inl ⟨by rfl, ?_⟩) (fun _ => hHeld) ?_
              rotate_left 1
              · (intro w hSw; (try dsimp only at hSw); (try go_split_ands); go_simp; try with_reducible rfl)
              try simp only [Act.put, List.setIfInBounds_toArray, List.set_cons_zero, List.set_cons_succ, List.getElem_toArray, List.getElem_cons_zero, List.getElem_cons_succ]
              have hm6 := hHeld2.2.1
              refine KeptTill.ready (rs := [23]) (by kernel_rfl) (by simp) ?_
              refine AllKept.last rfl rfl (by rfl) (fun K hK => ?_)
              go_simp
              refine hK.out _ _ ?_
              clear hK K hHeld hHeld2 hm6 hz6
              try simp only [Act.put, List.setIfInBounds_toArray, List.set_cons_zero, List.set_cons_succ, List.getElem_toArray, List.getElem_cons_zero, List.getElem_cons_succ]
              refine KeptTill.done (by kernel_rfl) ?_ _
              go_wp2_with fail
              go_roundw
              case rel => exact ⟨k + 1, A6, c6, by omega, by go_num, H6⟩
              case measure => simp only [intOf]; omega
            exact AllKept.nil
          refine AllKept.cons rfl rfl (fun K hK => ?_) ?_
          · (go_simp)
            refine hK.out _ _ ⟨Lib.cell?_alloc_some _ hHeld.1, Lib.cell?_alloc_some _ hHeld.2⟩ (fun hHeld => ?_)
            clear hK K
            try simp only [Act.put, List.setIfInBounds_toArray, List.set_cons_zero, List.set_cons_succ, List.getElem_toArray, List.getElem_cons_zero, List.getElem_cons_succ]
            refine KeptTill.mono (S := fun W => W.cell? ⟨b, off + k, none⟩ = some (.int .i64 g) ∧ W.cell? ⟨p, 0, none⟩ = some (.slice A4 k c) ∧ W.cell? ⟨wr.heap.size, j, none⟩ = some (.string fb)) (fun W h => ⟨h.1, h.2.1⟩) _ _ _ _ ?_
            replace hHeld := And.intro hHeld.1 (And.intro hHeld.2 (hV0))
            refine KeptTill.takeP (i := 17) (v := ?_) rfl (by kernel_rfl) (by kernel_rfl) (by kernel_rfl) (by rfl) (by intro c d u a w h; cases d <;> exact h) (Or.inl ⟨by rfl, ?_⟩) (fun _ => hHeld) ?_
            rotate_left 1
            · (intro w hSw; (try dsimp only at hSw); (try go_split_ands); go_simp; try with_reducible rfl)
            try simp only [Act.put, List.setIfInBounds_toArray, List.set_cons_zero, List.set_cons_succ, List.getElem_toArray, List.getElem_cons_zero, List.getElem_cons_succ]
            refine KeptTill.take (i := 18) (v := ?_) rfl (by kernel_rfl) (by kernel_rfl) (by kernel_rfl) (by rfl) (by rfl) (by kernel_rfl) (by intro c d u a w h; cases d <;> exact h) (Or.inl ⟨by rfl, ?_⟩) hHeld ?_
            rotate_left 1
            · (intro w hSw; (try dsimp only at hSw); (try go_split_ands); go_simp; try with_reducible rfl)
            try simp only [Act.put, List.setIfInBounds_toArray, List.set_cons_zero, List.set_cons_succ, List.getElem_toArray, List.getElem_cons_zero, List.getElem_cons_succ]
            refine KeptTill.ready (rs := [2]) (by kernel_rfl) (by simp) ?_
            refine AllKept.cons rfl rfl (fun K hK => ?_) ?_
            · (go_simp)
              refine hK.out _ _ ⟨Lib.cell?_alloc_some _ hHeld.1, Lib.cell?_alloc_some _ hHeld.2.1, Lib.cell?_alloc_some _ hHeld.2.2⟩ (fun hHeld => ?_)
              clear hK K
              try simp only [Act.put, List.setIfInBounds_toArray, List.set_cons_zero, List.set_cons_succ, List.getElem_toArray, List.getElem_cons_zero, List.getElem_cons_succ]
              refine KeptTill.mono (S := fun W => W.cell? ⟨b, off + k, none⟩ = some (.int .i64 g) ∧ W.cell? ⟨p, 0, none⟩ = some (.slice A4 k c) ∧ W.cell? ⟨wr.heap.size, j, none⟩ = some (.string fb) ∧ W.cell? ⟨wr.heap.size + 1, i, none⟩ = some (.string fa)) (fun W h => ⟨h.1, h.2.1, h.2.2.1⟩) _ _ _ _ ?_
              replace hHeld := And.intro hHeld.1 (And.intro hHeld.2.1 (And.intro hHeld.2.2 (hN1 (.cells #[.string ⟨#[]⟩, .string ⟨#[47]⟩, .string ⟨#[97, 98, 99]⟩] 9))))
              refine KeptTill.takeP (i := 8) (v := ?_) rfl (by kernel_rfl) (by kernel_rfl) (by kernel_rfl) (by rfl) (by intro c d u a w h; cases d <;> exact h) (Or.inl ⟨by rfl, ?_⟩) (fun _ => hHeld) ?_
              rotate_left 1
              · (intro w hSw; (try dsimp only at hSw); (try go_split_ands); go_simp; try with_reducible rfl)
              try simp only [Act.put, List.setIfInBounds_toArray, List.set_cons_zero, List.set_cons_succ, List.getElem_toArray, List.getElem_cons_zero, List.getElem_cons_succ]
              refine KeptTill.take (i := 9) (v := ?_) rfl (by kernel_rfl) (by kernel_rfl) (by kernel_rfl) (by rfl) (by rfl) (by kernel_rfl) (by intro c d u a w h; cases d <;> exact h) (Or.inl ⟨by rfl, ?_⟩) hHeld ?_
              rotate_left 1
              · (intro w hSw; (try dsimp only at hSw); (try go_split_ands); go_simp; try with_reducible rfl)
              try simp only [Act.put, List.setIfInBounds_toArray, List.set_cons_zero, List.set_cons_succ, List.getElem_toArray, List.getElem_cons_zero, List.getElem_cons_succ]
              refine KeptTill.takeP (i := 19) (v := ?_) rfl (by kernel_rfl) (by kernel_rfl) (by kernel_rfl) (by rfl) (by intro c d u a w h; cases d <;> exact h) (Or.inl ⟨by rfl, ?_⟩) (fun _ => hHeld) ?_
              rotate_left 1
              · (intro w hSw; (try dsimp only at hSw); (try go_split_ands); go_simp; try with_reducible rfl)
              try simp only [Act.put, List.setIfInBounds_toArray, List.set_cons_zero, List.set_cons_succ, List.getElem_toArray, List.getElem_cons_zero, List.getElem_cons_succ]
              refine KeptTill.ready (rs := [20]) (by kernel_rfl) (by simp) ?_
              refine AllKept.cons rfl rfl (fun K hK => ?_) AllKept.nil
              go_simp
              refine hK.out _ _ ⟨Lib.cell?_alloc_some _ hHeld.1, Lib.cell?_alloc_some _ hHeld.2.1, Lib.cell?_alloc_some _ hHeld.2.2.1, Lib.cell?_alloc_some _ hHeld.2.2.2⟩ (fun hHeld => ?_)
              clear hK K
              try simp only [Act.put, List.setIfInBounds_toArray, List.set_cons_zero, List.set_cons_succ, List.getElem_toArray, List.getElem_cons_zero, List.getElem_cons_succ]
              refine KeptTill.ready (rs := [21]) (by kernel_rfl) (by simp) ?_
              refine AllKept.cons rfl rfl (fun K hK => ?_) AllKept.nil
              obtain ⟨i0, hi0, hz0, hz1, hz2⟩ := info_parts infoF
              refine wp_appS _ _ 22 rfl w.heap.size 47 i0 _ 2 32 Tryd.underlying22 hi0 hz0 hz1 hz2 rfl (by decide) (.slice A4 k c) k (fdv ((ns.map sfd).take k)) rfl (HO.out _ _ _) ⟨wr.heap.size + 1 + 1, 0, none⟩ 1 1 [.string fa, .string fb] rfl rfl (Rd.cells (HRec.out _ _)) (by intro u hu; rcases List.mem_cons.1 hu with rfl | hu; rfl; rw [List.mem_singleton.1 hu]; rfl) (by unfold maxLen; omega) (by omega) (HB3.out _ _ _) ?_
              intro A6 c6 w6 ho6 hg6 hn6
              have H6 := Lib.hid (HF.out A6 c6 w6 _ _ _ ho6 hg6 hn6)
              have HC6 := HFc.out w6 _ _ _ hg6
              have hz6 := hfz.out w6 _ _ _ hg6
              refine hK.out _ _ ⟨(HC6 _ _ hHeld.1 (.inl rfl)).1, (HC6 _ _ hHeld.2.1 (.inr (.inl rfl))).1, (HC6 _ _ hHeld.2.2.1 (.inr (.inr (Nat.le_refl _)))).1, (HC6 _ _ hHeld.2.2.2 (.inr (.inr (Nat.le_succ _)))).1⟩ (fun hHeld2 => ?_)
              clear hK K hHeld ho6 hg6 HC6 hn6
              try simp only [Act.put, List.setIfInBounds_toArray, List.set_cons_zero, List.set_cons_succ, List.getElem_toArray, List.getElem_cons_zero, List.getElem_cons_succ]
              have hHeld := hHeld2
              refine KeptTill.takeP (i := 22) (v := ?_) rfl (by kernel_rfl) (by kernel_rfl) (by kernel_rfl) (by rfl) (by intro c d u a w h; cases d <;> exact h) (Or.inl ⟨by rfl, ?_⟩) (fun _ => hHeld) ?_
              rotate_left 1
              · (intro w hSw; (try dsimp only at hSw); (try go_split_ands); go_simp; try with_reducible rfl)
              try simp only [Act.put, List.setIfInBounds_toArray, List.set_cons_zero, List.set_cons_succ, List.getElem_toArray, List.getElem_cons_zero, List.getElem_cons_succ]
              have hm6 := hHeld2.2.1
              refine KeptTill.ready (rs := [23]) (by kernel_rfl) (by simp) ?_
              refine AllKept.last rfl rfl (by rfl) (fun K hK => ?_)
              go_simp
              refine hK.out _ _ ?_
              clear hK K hHeld hHeld2 hm6 hz6
              try simp only [Act.put, List.setIfInBounds_toArray, List.set_cons_zero, List.set_cons_succ, List.getElem_toArray, List.getElem_cons_zero, List.getElem_cons_succ]
              refine KeptTill.done (by kernel_rfl) ?_ _
              go_wp2_with fail
              go_roundw
              case rel => exact ⟨k + 1, A6, c6, by omega, by go_num, H6⟩
              case measure => simp only [intOf]; omega
            exact AllKept.nil
          exact AllKept.nil
        exact AllKept.nil
      refine AllKept.cons rfl rfl (fun K hK => ?_) ?_
      · (go_simp)
        refine hK.out _ _ ⟨Lib.cell?_alloc_some _ hHeld.1, Lib.cell?_alloc_some _ hHeld.2⟩ (fun hHeld => ?_)
        clear hK K
        try simp only [Act.put, List.setIfInBounds_toArray, List.set_cons_zero, List.set_cons_succ, List.getElem_toArray, List.getElem_cons_zero, List.getElem_cons_succ]
        refine KeptTill.mono (S := fun W => W.cell? ⟨b, off + k, none⟩ = some (.int .i64 g) ∧ W.cell? ⟨p, 0, none⟩ = some (.slice A4 k c) ∧ W.cell? ⟨wr.heap.size, j, none⟩ = some (.string fb)) (fun W h => ⟨h.1, h.2.1⟩) _ _ _ _ ?_
        replace hHeld := And.intro hHeld.1 (And.intro hHeld.2 (hV0))
        refine KeptTill.ready (rs := [2, 7]) (by kernel_rfl) (by simp) ?_
        refine AllKept.cons rfl rfl (fun K hK => ?_) ?_
        · (go_simp)
          refine hK.out _ _ ⟨Lib.cell?_alloc_some _ hHeld.1, Lib.cell?_alloc_some _ hHeld.2.1, Lib.cell?_alloc_some _ hHeld.2.2⟩ (fun hHeld => ?_)
          clear hK K
          try simp only [Act.put, List.setIfInBounds_toArray, List.set_cons_zero, List.set_cons_succ, List.getElem_toArray, List.getElem_cons_zero, List.getElem_cons_succ]
          refine KeptTill.mono (S := fun W => W.cell? ⟨b, off + k, none⟩ = some (.int .i64 g) ∧ W.cell? ⟨p, 0, none⟩ = some (.slice A4 k c) ∧ W.cell? ⟨wr.heap.size, j, none⟩ = some (.string fb) ∧ W.cell? ⟨wr.heap.size + 1, i, none⟩ = some (.string fa)) (fun W h => ⟨h.1, h.2.1, h.2.2.1⟩) _ _ _ _ ?_
          replace hHeld := And.intro hHeld.1 (And.intro hHeld.2.1 (And.intro hHeld.2.2 (hN1 (.cells #[.string ⟨#[]⟩, .string ⟨#[47]⟩, .string ⟨#[97, 98, 99]⟩] 9))))
          refine KeptTill.ready (rs := [7]) (by kernel_rfl) (by simp) ?_
          refine AllKept.cons rfl rfl (fun K hK => ?_) ?_
          · go_simp; go_at_call 18; refine (LA.out _).mono ?_; rintro e w3 ⟨rfl, rfl⟩
            refine hK.out _ _ hHeld (fun hHeld => ?_)
            clear hK K
            try simp only [Act.put, List.setIfInBounds_toArray, List.set_cons_zero, List.set_cons_succ, List.getElem_toArray, List.getElem_cons_zero, List.getElem_cons_succ]
            refine KeptTill.takeP (i := 8) (v := ?_) rfl (by kernel_rfl) (by kernel_rfl) (by kernel_rfl) (by rfl) (by intro c d u a w h; cases d <;> exact h) (Or.inl ⟨by rfl, ?_⟩) (fun _ => hHeld) ?_
            rotate_left 1
            · (intro w hSw; (try dsimp only at hSw); (try go_split_ands); go_simp; try with_reducible rfl)
            try simp only [Act.put, List.setIfInBounds_toArray, List.set_cons_zero, List.set_cons_succ, List.getElem_toArray, List.getElem_cons_zero, List.getElem_cons_succ]
            refine KeptTill.take (i := 9) (v := ?_) rfl (by kernel_rfl) (by kernel_rfl) (by kernel_rfl) (by rfl) (by rfl) (by kernel_rfl) (by intro c d u a w h; cases d <;> exact h) (Or.inl ⟨by rfl, ?_⟩) hHeld ?_
            rotate_left 1
            · (intro w hSw; (try dsimp only at hSw); (try go_split_ands); go_simp; try with_reducible rfl)
            try simp only [Act.put, List.setIfInBounds_toArray, List.set_cons_zero, List.set_cons_succ, List.getElem_toArray, List.getElem_cons_zero, List.getElem_cons_succ]
            refine KeptTill.ready (rs := [16]) (by kernel_rfl) (by simp) ?_
            refine AllKept.cons rfl rfl (fun K hK => ?_) ?_
            · go_simp; go_at_call 18; refine (LB.out _).mono ?_; rintro e w3 ⟨rfl, rfl⟩
              refine hK.out _ _ hHeld (fun hHeld => ?_)
              clear hK K
              try simp only [Act.put, List.setIfInBounds_toArray, List.set_cons_zero, List.set_cons_succ, List.getElem_toArray, List.getElem_cons_zero, List.getElem_cons_succ]
              refine KeptTill.takeP (i := 17) (v := ?_) rfl (by kernel_rfl) (by kernel_rfl) (by kernel_rfl) (by rfl) (by intro c d u a w h; cases d <;> exact h) (Or.inl ⟨by rfl, ?_⟩) (fun _ => hHeld) ?_
              rotate_left 1
              · (intro w hSw; (try dsimp only at hSw); (try go_split_ands); go_simp; try with_reducible rfl)
              try simp only [Act.put, List.setIfInBounds_toArray, List.set_cons_zero, List.set_cons_succ, List.getElem_toArray, List.getElem_cons_zero, List.getElem_cons_succ]
              refine KeptTill.take (i := 18) (v := ?_) rfl (by kernel_rfl) (by kernel_rfl) (by kernel_rfl) (by rfl) (by rfl) (by kernel_rfl) (by intro c d u a w h; cases d <;> exact h) (Or.inl ⟨by rfl, ?_⟩) hHeld ?_
              rotate_left 1
              · (intro w hSw; (try dsimp only at hSw); (try go_split_ands); go_simp; try with_reducible rfl)
              try simp only [Act.put, List.setIfInBounds_toArray, List.set_cons_zero, List.set_cons_succ, List.getElem_toArray, List.getElem_cons_zero, List.getElem_cons_succ]
              refine KeptTill.takeP (i := 19) (v := ?_) rfl (by kernel_rfl) (by kernel_rfl) (by kernel_rfl) (by rfl) (by intro c d u a w h; cases d <;> exact h) (Or.inl ⟨by rfl, ?_⟩) (fun _ => hHeld) ?_
              rotate_left 1
              · (intro w hSw; (try dsimp only at hSw); (try go_split_ands); go_simp; try with_reducible rfl)
              try simp only [Act.put, List.setIfInBounds_toArray, List.set_cons_zero, List.set_cons_succ, List.getElem_toArray, List.getElem_cons_zero, List.getElem_cons_succ]
              refine KeptTill.ready (rs := [20]) (by kernel_rfl) (by simp) ?_
              refine AllKept.cons rfl rfl (fun K hK => ?_) AllKept.nil
              go_simp
              refine hK.out _ _ ⟨Lib.cell?_alloc_some _ hHeld.1, Lib.cell?_alloc_some _ hHeld.2.1, Lib.cell?_alloc_some _ hHeld.2.2.1, Lib.cell?_alloc_some _ hHeld.2.2.2⟩ (fun hHeld => ?_)
              clear hK K
              try simp only [Act.put, List.setIfInBounds_toArray, List.set_cons_zero, List.set_cons_succ, List.getElem_toArray, List.getElem_cons_zero, List.getElem_cons_succ]
              refine KeptTill.ready (rs := [21]) (by kernel_rfl) (by simp) ?_
              refine AllKept.cons rfl rfl (fun K hK => ?_) AllKept.nil
              obtain ⟨i0, hi0, hz0, hz1, hz2⟩ := info_parts infoF
              refine wp_appS _ _ 22 rfl w.heap.size 47 i0 _ 2 32 Tryd.underlying22 hi0 hz0 hz1 hz2 rfl (by decide) (.slice A4 k c) k (fdv ((ns.map sfd).take k)) rfl (HO.out _ _ _) ⟨wr.heap.size + 1 + 1, 0, none⟩ 1 1 [.string fa, .string fb] rfl rfl (Rd.cells (HRec.out _ _)) (by intro u hu; rcases List.mem_cons.1 hu with rfl | hu; rfl; rw [List.mem_singleton.1 hu]; rfl) (by unfold maxLen; omega) (by omega) (HB3.out _ _ _) ?_
              intro A6 c6 w6 ho6 hg6 hn6
              have H6 := Lib.hid (HF.out A6 c6 w6 _ _ _ ho6 hg6 hn6)
              have HC6 := HFc.out w6 _ _ _ hg6
              have hz6 := hfz.out w6 _ _ _ hg6
              refine hK.out _ _ ⟨(HC6 _ _ hHeld.1 (.inl rfl)).1, (HC6 _ _ hHeld.2.1 (.inr (.inl rfl))).1, (HC6 _ _ hHeld.2.2.1 (.inr (.inr (Nat.le_refl _)))).1, (HC6 _ _ hHeld.2.2.2 (.inr (.inr (Nat.le_succ _)))).1⟩ (fun hHeld2 => ?_)
              clear hK K hHeld ho6 hg6 HC6 hn6
              try simp only [Act.put, List.setIfInBounds_toArray, List.set_cons_zero, List.set_cons_succ, List.getElem_toArray, List.getElem_cons_zero, List.getElem_cons_succ]
              have hHeld := hHeld2
              refine KeptTill.takeP (i := 22) (v := ?_) rfl (by kernel_rfl) (by kernel_rfl) (by kernel_rfl) (by rfl) (by intro c d u a w h; cases d <;> exact h) (Or.inl ⟨by rfl, ?_⟩) (fun _ => hHeld) ?_
              rotate_left 1
              · (intro w hSw; (try dsimp only at hSw); (try go_split_ands); go_simp; try with_reducible rfl)
              try simp only [Act.put, List.setIfInBounds_toArray, List.set_cons_zero, List.set_cons_succ, List.getElem_toArray, List.getElem_cons_zero, List.getElem_cons_succ]
              have hm6 := hHeld2.2.1
              refine KeptTill.ready (rs := [23]) (by kernel_rfl) (by simp) ?_
              refine AllKept.last rfl rfl (by rfl) (fun K hK => ?_)
              go_simp
              refine hK.out _ _ ?_
              clear hK K hHeld hHeld2 hm6 hz6
              try simp only [Act.put, List.setIfInBounds_toArray, List.set_cons_zero, List.set_cons_succ, List.getElem_toArray, List.getElem_cons_zero, List.getElem_cons_succ]
              refine KeptTill.done (by kernel_rfl) ?_ _
              go_wp2_with fail
              go_roundw
              case rel => exact ⟨k + 1, A6, c6, by omega, by go_num, H6⟩
              case measure => simp only [intOf]; omega
            exact AllKept.nil
          exact AllKept.nil
        refine AllKept.cons rfl rfl (fun K hK => ?_) ?_
        · go_simp; go_at_call 18; refine (LA.out _).mono ?_; rintro e w3 ⟨rfl, rfl⟩
          refine hK.out _ _ hHeld (fun hHeld => ?_)
          clear hK K
          try simp only [Act.put, List.setIfInBounds_toArray, List.set_cons_zero, List.set_cons_succ, List.getElem_toArray, List.getElem_cons_zero, List.getElem_cons_succ]
          refine KeptTill.ready (rs := [2, 16]) (by kernel_rfl) (by simp) ?_
          refine AllKept.cons rfl rfl (fun K hK => ?_) ?_
          · (go_simp)
            refine hK.out _ _ ⟨Lib.cell?_alloc_some _ hHeld.1, Lib.cell?_alloc_some _ hHeld.2.1, Lib.cell?_alloc_some _ hHeld.2.2⟩ (fun hHeld => ?_)
            clear hK K
            try simp only [Act.put, List.setIfInBounds_toArray, List.set_cons_zero, List.set_cons_succ, List.getElem_toArray, List.getElem_cons_zero, List.getElem_cons_succ]
            refine KeptTill.mono (S := fun W => W.cell? ⟨b, off + k, none⟩ = some (.int .i64 g) ∧ W.cell? ⟨p, 0, none⟩ = some (.slice A4 k c) ∧ W.cell? ⟨wr.heap.size, j, none⟩ = some (.string fb) ∧ W.cell? ⟨wr.heap.size + 1, i, none⟩ = some (.string fa)) (fun W h => ⟨h.1, h.2.1, h.2.2.1⟩) _ _ _ _ ?_
            replace hHeld := And.intro hHeld.1 (And.intro hHeld.2.1 (And.intro hHeld.2.2 (hN1 (.cells #[.string ⟨#[]⟩, .string ⟨#[47]⟩, .string ⟨#[97, 98, 99]⟩] 9))))
            refine KeptTill.takeP (i := 8) (v := ?_) rfl (by kernel_rfl) (by kernel_rfl) (by kernel_rfl) (by rfl) (by intro c d u a w h; cases d <;> exact h) (Or.inl ⟨by rfl, ?_⟩) (fun _ => hHeld) ?_
            rotate_left 1
            · (intro w hSw; (try dsimp only at hSw); (try go_split_ands); go_simp; try with_reducible rfl)
            try simp only [Act.put, List.setIfInBounds_toArray, List.set_cons_zero, List.set_cons_succ, List.getElem_toArray, List.getElem_cons_zero, List.getElem_cons_succ]
            refine KeptTill.take (i := 9) (v := ?_) rfl (by kernel_rfl) (by kernel_rfl) (by kernel_rfl) (by rfl) (by rfl) (by kernel_rfl) (by intro c d u a w h; cases d <;> exact h) (Or.inl ⟨by rfl, ?_⟩) hHeld ?_
            rotate_left 1
            · (intro w hSw; (try dsimp only at hSw); (try go_split_ands); go_simp; try with_reducible rfl)
            try simp only [Act.put, List.setIfInBounds_toArray, List.set_cons_zero, List.set_cons_succ, List.getElem_toArray, List.getElem_cons_zero, List.getElem_cons_succ]
            refine KeptTill.ready (rs := [16]) (by kernel_rfl) (by simp) ?_
            refine AllKept.cons rfl rfl (fun K hK => ?_) ?_
            · go_simp; go_at_call 18; refine (LB.out _).mono ?_; rintro e w3 ⟨rfl, rfl⟩
              refine hK.out _ _ hHeld (fun hHeld => ?_)
              clear hK K
              try simp only [Act.put, List.setIfInBounds_toArray, List.set_cons_zero, List.set_cons_succ, List.getElem_toArray, List.getElem_cons_zero, List.getElem_cons_succ]
              refine KeptTill.takeP (i := 17) (v := ?_) rfl (by kernel_rfl) (by kernel_rfl) (by kernel_rfl) (by rfl) (by intro c d u a w h; cases d <;> exact h) (Or.inl ⟨by rfl, ?_⟩) (fun _ => hHeld) ?_
              rotate_left 1
              · (intro w hSw; (try dsimp only at hSw); (try go_split_ands); go_simp; try with_reducible rfl)
              try simp only [Act.put, List.setIfInBounds_toArray, List.set_cons_zero, List.set_cons_succ, List.getElem_toArray, List.getElem_cons_zero, List.getElem_cons_succ]
              refine KeptTill.take (i := 18) (v := ?_) rfl (by kernel_rfl) (by kernel_rfl) (by kernel_rfl) (by rfl) (by rfl) (by kernel_rfl) (by intro c d u a w h; cases d <;> exact h) (Or.inl ⟨by rfl, ?_⟩) hHeld ?_
              rotate_left 1
              · (intro w hSw; (try dsimp only at hSw); (try go_split_ands); go_simp; try with_reducible rfl)
              try simp only [Act.put, List.setIfInBounds_toArray, List.set_cons_zero, List.set_cons_succ, List.getElem_toArray, List.getElem_cons_zero, List.getElem_cons_succ]
              refine KeptTill.takeP (i := 19) (v := ?_) rfl (by kernel_rfl) (by kernel_rfl) (by kernel_rfl) (by rfl) (by intro c d u a w h; cases d <;> exact h) (Or.inl ⟨by rfl, ?_⟩) (fun _ => hHeld) ?_
              rotate_left 1
              · (intro w hSw; (try dsimp only at hSw); (try go_split_ands); go_simp; try with_reducible rfl)
              try simp only [Act.put, List.setIfInBounds_toArray, List.set_cons_zero, List.set_cons_succ, List.getElem_toArray, List.getElem_cons_zero, List.getElem_cons_succ]
              refine KeptTill.ready (rs := [20]) (by kernel_rfl) (by simp) ?_
              refine AllKept.cons rfl rfl (fun K hK => ?_) AllKept.nil
              go_simp
              refine hK.out _ _ ⟨Lib.cell?_alloc_some _ hHeld.1, Lib.cell?_alloc_some _ hHeld.2.1, Lib.cell?_alloc_some _ hHeld.2.2.1, Lib.cell?_alloc_some _ hHeld.2.2.2⟩ (fun hHeld => ?_)
              clear hK K
              try simp only [Act.put, List.setIfInBounds_toArray, List.set_cons_zero, List.set_cons_succ, List.getElem_toArray, List.getElem_cons_zero, List.getElem_cons_succ]
              refine KeptTill.ready (rs := [21]) (by kernel_rfl) (by simp) ?_
              refine AllKept.cons rfl rfl (fun K hK => ?_) AllKept.nil
              obtain ⟨i0, hi0, hz0, hz1, hz2⟩ := info_parts infoF
              refine wp_appS _ _ 22 rfl w.heap.size 47 i0 _ 2 32 Tryd.underlying22 hi0 hz0 hz1 hz2 rfl (by decide) (.slice A4 k c) k (fdv ((ns.map sfd).take k)) rfl (HO.out _ _ _) ⟨wr.heap.size + 1 + 1, 0, none⟩ 1 1 [.string fa, .string fb] rfl rfl (Rd.cells (HRec.out _ _)) (by intro u hu; rcases List.mem_cons.1 hu with rfl | hu; rfl; rw [List.mem_singleton.1 hu]; rfl) (by unfold maxLen; omega) (by omega) (HB3.out _ _ _) ?_
              intro A6 c6 w6 ho6 hg6 hn6
              have H6 := Lib.hid (HF.out A6 c6 w6 _ _ _ ho6 hg6 hn6)
              have HC6 := HFc.out w6 _ _ _ hg6
              have hz6 := hfz.out w6 _ _ _ hg6
              refine hK.out _ _ ⟨(HC6 _ _ hHeld.1 (.inl rfl)).1, (HC6 _ _ hHeld.2.1 (.inr (.inl rfl))).1, (HC6 _ _ hHeld.2.2.1 (.inr (.inr (Nat.le_refl _)))).1, (HC6 _ _ hHeld.2.2.2 (.inr (.inr (Nat.le_succ _)))).1⟩ (fun hHeld2 => ?_)
              clear hK K hHeld ho6 hg6 HC6 hn6
              try simp only [Act.put, List.setIfInBounds_toArray, List.set_cons_zero, List.set_cons_succ, List.getElem_toArray, List.getElem_cons_zero, List.getElem_cons_succ]
              have hHeld := hHeld2
              refine KeptTill.takeP (i := 22) (v := ?_) rfl (by kernel_rfl) (by kernel_rfl) (by kernel_rfl) (by rfl) (by intro c d u a w h; cases d <;> exact h) (Or.inl ⟨by rfl, ?_⟩) (fun _ => hHeld) ?_
              rotate_left 1
              · (intro w hSw; (try dsimp only at hSw); (try go_split_ands); go_simp; try with_reducible rfl)
              try simp only [Act.put, List.setIfInBounds_toArray, List.set_cons_zero, List.set_cons_succ, List.getElem_toArray, List.getElem_cons_zero, List.getElem_cons_succ]
              have hm6 := hHeld2.2.1
              refine KeptTill.ready (rs := [23]) (by kernel_rfl) (by simp) ?_
              refine AllKept.last rfl rfl (by rfl) (fun K hK => ?_)
              go_simp
              refine hK.out _ _ ?_
              clear hK K hHeld hHeld2 hm6 hz6
              try simp only [Act.put, List.setIfInBounds_toArray, List.set_cons_zero, List.set_cons_succ, List.getElem_toArray, List.getElem_cons_zero, List.getElem_cons_succ]
              refine KeptTill.done (by kernel_rfl) ?_ _
              go_wp2_with fail
              go_roundw
              case rel => exact ⟨k + 1, A6, c6, by omega, by go_num, H6⟩
              case measure => simp only [intOf]; omega
            exact AllKept.nil
          refine AllKept.cons rfl rfl (fun K hK => ?_) ?_
          · go_simp; go_at_call 18; refine (LB.out _).mono ?_; rintro e w3 ⟨rfl, rfl⟩
            refine hK.out _ _ hHeld (fun hHeld => ?_)
            clear hK K
            try simp only [Act.put, List.setIfInBounds_toArray, List.set_cons_zero, List.set_cons_succ, List.getElem_toArray, List.getElem_cons_zero, List.getElem_cons_succ]
            refine KeptTill.takeP (i := 17) (v := ?_) rfl (by kernel_rfl) (by kernel_rfl) (by kernel_rfl) (by rfl) (by intro c d u a w h; cases d <;> exact h) (Or.inl ⟨by rfl, ?_⟩) (fun _ => hHeld) ?_
            rotate_left 1
            · (intro w hSw; (try dsimp only at hSw); (try go_split_ands); go_simp; try with_reducible rfl)
            try simp only [Act.put, List.setIfInBounds_toArray, List.set_cons_zero, List.set_cons_succ, List.getElem_toArray, List.getElem_cons_zero, List.getElem_cons_succ]
            refine KeptTill.take (i := 18) (v := ?_) rfl (by kernel_rfl) (by kernel_rfl) (by kernel_rfl) (by rfl) (by rfl) (by kernel_rfl) (by intro c d u a w h; cases d <;> exact h) (Or.inl ⟨by rfl, ?_⟩) hHeld ?_
            rotate_left 1
            · (intro w hSw; (try dsimp only at hSw); (try go_split_ands); go_simp; try with_reducible rfl)
            try simp only [Act.put, List.setIfInBounds_toArray, List.set_cons_zero, List.set_cons_succ, List.getElem_toArray, List.getElem_cons_zero, List.getElem_cons_succ]
            refine KeptTill.ready (rs := [2]) (by kernel_rfl) (by simp) ?_
            refine AllKept.cons rfl rfl (fun K hK => ?_) ?_
            · (go_simp)
              refine hK.out _ _ ⟨Lib.cell?_alloc_some _ hHeld.1, Lib.cell?_alloc_some _ hHeld.2.1, Lib.cell?_alloc_some _ hHeld.2.2⟩ (fun hHeld => ?_)
              clear hK K
              try simp only [Act.put, List.setIfInBounds_toArray, List.set_cons_zero, List.set_cons_succ, List.getElem_toArray, List.getElem_cons_zero, List.getElem_cons_succ]
              refine KeptTill.mono (S := fun W => W.cell? ⟨b, off + k, none⟩ = some (.int .i64 g) ∧ W.cell? ⟨p, 0, none⟩ = some (.slice A4 k c) ∧ W.cell? ⟨wr.heap.size, j, none⟩ = some (.string fb) ∧ W.cell? ⟨wr.heap.size + 1, i, none⟩ = some (.string fa)) (fun W h => ⟨h.1, h.2.1, h.2.2.1⟩) _ _ _ _ ?_
              replace hHeld := And.intro hHeld.1 (And.intro hHeld.2.1 (And.intro hHeld.2.2 (hN1 (.cells #[.string ⟨#[]⟩, .string ⟨#[47]⟩, .string ⟨#[97, 98, 99]⟩] 9))))
              refine KeptTill.takeP (i := 8) (v := ?_) rfl (by kernel_rfl) (by kernel_rfl) (by kernel_rfl) (by rfl) (by intro c d u a w h; cases d <;> exact h) (Or.inl ⟨by rfl, ?_⟩) (fun _ => hHeld) ?_
              rotate_left 1
              · (intro w hSw; (try dsimp only at hSw); (try go_split_ands); go_simp; try with_reducible rfl)
              try simp only [Act.put, List.setIfInBounds_toArray, List.set_cons_zero, List.set_cons_succ, List.getElem_toArray, List.getElem_cons_zero, List.getElem_cons_succ]
              refine KeptTill.take (i := 9) (v := ?_) rfl (by kernel_rfl) (by kernel_rfl) (by kernel_rfl) (by rfl) (by rfl) (by kernel_rfl) (by intro c d u a w h; cases d <;> exact h) (Or.inl ⟨by rfl, ?_⟩) hHeld ?_
              rotate_left 1
              · (intro w hSw; (try dsimp only at hSw); (try go_split_ands); go_simp; try with_reducible rfl)
              try simp only [Act.put, List.setIfInBounds_toArray, List.set_cons_zero, List.set_cons_succ, List.getElem_toArray, List.getElem_cons_zero, List.getElem_cons_succ]
              refine KeptTill.takeP (i := 19) (v := ?_) rfl (by kernel_rfl) (by kernel_rfl) (by kernel_rfl) (by rfl) (by intro c d u a w h; cases d <;> exact h) (Or.inl ⟨by rfl, ?_⟩) (fun _ => hHeld) ?_
              rotate_left 1
              · (intro w hSw; (try dsimp only at hSw); (try go_split_ands); go_simp; try with_reducible rfl)
              try simp only [Act.put, List.setIfInBounds_toArray, List.set_cons_zero, List.set_cons_succ, List.getElem_toArray, List.getElem_cons_zero, List.getElem_cons_succ]
              refine KeptTill.ready (rs := [20]) (by kernel_rfl) (by simp) ?_
              refine AllKept.cons rfl rfl (fun K hK => ?_) AllKept.nil
              go_simp
              refine hK.out _ _ ⟨Lib.cell?_alloc_some _ hHeld.1, Lib.cell?_alloc_some _ hHeld.2.1, Lib.cell?_alloc_some _ hHeld.2.2.1, Lib.cell?_alloc_some _ hHeld.2.2.2⟩ (fun hHeld => ?_)
              clear hK K
              try simp only [Act.put, List.setIfInBounds_toArray, List.set_cons_zero, List.set_cons_succ, List.getElem_toArray, List.getElem_cons_zero, List.getElem_cons_succ]
              refine KeptTill.ready (rs := [21]) (by kernel_rfl) (by simp) ?_
              refine AllKept.cons rfl rfl (fun K hK => ?_) AllKept.nil
              obtain ⟨i0, hi0, hz0, hz1, hz2⟩ := info_parts infoF
              refine wp_appS _ _ 22 rfl w.heap.size 47 i0 _ 2 32 Tryd.underlying22 hi0 hz0 hz1 hz2 rfl (by decide) (.slice A4 k c) k (fdv ((ns.map sfd).take k)) rfl (HO.out _ _ _) ⟨wr.heap.size + 1 + 1, 0, none⟩ 1 1 [.string fa, .string fb] rfl rfl (Rd.cells (HRec.out _ _)) (by intro u hu; rcases List.mem_cons.1 hu with rfl | hu; rfl; rw [List.mem_singleton.1 hu]; rfl) (by unfold maxLen; omega) (by omega) (HB3.out _ _ _) ?_
              intro A6 c6 w6 ho6 hg6 hn6
              have H6 := Lib.hid (HF.out A6 c6 w6 _ _ _ ho6 hg6 hn6)
              have HC6 := HFc.out w6 _ _ _ hg6
              have hz6 := hfz.out w6 _ _ _ hg6
              refine hK.out _ _ ⟨(HC6 _ _ hHeld.1 (.inl rfl)).1, (HC6 _ _ hHeld.2.1 (.inr (.inl rfl))).1, (HC6 _ _ hHeld.2.2.1 (.inr (.inr (Nat.le_refl _)))).1, (HC6 _ _ hHeld.2.2.2 (.inr (.inr (Nat.le_succ _)))).1⟩ (fun hHeld2 => ?_)
              clear hK K hHeld ho6 hg6 HC6 hn6
              try simp only [Act.put, List.setIfInBounds_toArray, List.set_cons_zero, List.set_cons_succ, List.getElem_toArray, List.getElem_cons_zero, List.getElem_cons_succ]
              have hHeld := hHeld2
              refine KeptTill.takeP (i := 22) (v := ?_) rfl (by kernel_rfl) (by kernel_rfl) (by kernel_rfl) (by rfl) (by intro c d u a w h; cases d <;> exact h) (Or.inl ⟨by rfl, ?_⟩) (fun _ => hHeld) ?_
              rotate_left 1
              · (intro w hSw; (try dsimp only at hSw); (try go_split_ands); go_simp; try with_reducible rfl)
              try simp only [Act.put, List.setIfInBounds_toArray, List.set_cons_zero, List.set_cons_succ, List.getElem_toArray, List.getElem_cons_zero, List.getElem_cons_succ]
              have hm6 := hHeld2.2.1
              refine KeptTill.ready (rs := [23]) (by kernel_rfl) (by simp) ?_
              refine AllKept.last rfl rfl (by rfl) (fun K hK => ?_)
              go_simp
              refine hK.out _ _ ?_
              clear hK K hHeld hHeld2 hm6 hz6
              try simp only [Act.put, List.setIfInBounds_toArray, List.set_cons_zero, List.set_cons_succ, List.getElem_toArray, List.getElem_cons_zero, List.getElem_cons_succ]
              refine KeptTill.done (by kernel_rfl) ?_ _
              go_wp2_with fail
              go_roundw
              case rel => exact ⟨k + 1, A6, c6, by omega, by go_num, H6⟩
              case measure => simp only [intOf]; omega
            exact AllKept.nil
          exact AllKept.nil
        exact AllKept.nil
      exact AllKept.nil
    · obtain rfl : n = k := by omega
      have d0 : decide (n < n) = false := by simp
      have d1 : decide ((n : Int) < (n : Int)) = false := by simp
      obtain ⟨fs, hfs⟩ : ∃ fs, ns.map sfd = fs := ⟨_, rfl⟩
      have hP : (fput fs).2 = 0 := by rw [← hfs]; exact sfds_put ns (by rw [Hn.out]; exact hn3)
      have hfl : fs.length = n := by rw [← hfs, List.length_map, Hn.out]
      have hfh : ∀ f ∈ fs, f.name.size ≤ 1000000 ∧ f.value.size ≤ 1000000 := fun f hf => by
        rw [← hfs] at hf
        obtain ⟨g, _, rfl⟩ := List.mem_map.1 hf
        have := sfd_ok g
        omega
      have M : Hid (Msg wr p fs D A4 n c X L x) := Lib.hid ⟨HS.out.row, by
        have h1 := Rd.of_ownS HS.out.own
        rw [hfs, List.take_of_length_le (by rw [hfl]; exact Nat.le_refl _)] at h1
        exact h1, HS.out.rb, hfl, hD.out, by omega, by omega, hfh⟩
      have bb : Hid (Below w.heap.size w wr) := Lib.hid HS.out.bel
      have hbk2 : Hid (BK wr) := Lib.hid (hbk.fr (Fr.of_below bb.out NoS) (fun x => x))
      have hPP := Lib.hid hP
      have hfnd := Lib.hid (fnd_least D hP)
      have hlp : p < wr.heap.size := HS.out.lt
      obtain ⟨LE, hLE⟩ : ∃ LE, ltleast fs D = LE := ⟨_, rfl⟩
      rw [hLE] at hfnd
      have CF := Lib.hid (M.out.r.fits (c := c) (d := x) hbk2.out LE hLE)
      have x0 := M.out.c0
      have x1 := M.out.c1
      clear HS hfs hP hfl hfh hLE hbk hk
      go_wp2_with fail
      refine CF.out.mono ?_
      rintro e w3 ⟨rfl, b3⟩
      clear CF x0 x1 d0 d1
      replace M := Lib.hid (M.out.below b3)
      replace bb := Lib.hid (bb.out.trans (b3.mono bb.out.size))
      replace hbk2 := Lib.hid (hbk2.out.below b3)
      obtain ⟨q, hq⟩ : ∃ q, w3.heap.size = q := ⟨_, rfl⟩
      obtain ⟨w4, hw4⟩ : ∃ W, w3.alloc (.cells #[.int .i64 256, .int .i64 512, .int .i64 1024] 3) = W := ⟨_, rfl⟩
      have b4 : Below w3.heap.size w3 w4 := by rw [← hw4]; exact (Below.refl _ w3).alloc (Nat.le_refl _) _
      have RB : Hid (Rd w4 (some ⟨q, 0, none⟩) [.int .i64 256, .int .i64 512, .int .i64 1024]) := Lib.hid (by rw [← hw4]; exact Rd.freshAt hq _ _ rfl)
      replace M := Lib.hid (M.out.below b4)
      replace bb := Lib.hid (bb.out.trans (b4.mono bb.out.size))
      replace hbk2 := Lib.hid (hbk2.out.below b4)
      clear b3 b4 hlp
      replace hw4 := Lib.hid hw4
      replace hq := Lib.hid hq
      go_wp2_with fail
      rw [hw4.out, hq.out]
      clear hw4 hq
      go_wp2_with fail
      go_loopw [9, 10] (fun f i wl => ∃ k : Nat, k ≤ 3 ∧ f = .int .i64 (fnd fs D k) ∧ i = .int .i64 k ∧ Hid (BK wl) ∧ Hid (Msg wl p fs D A4 n c X L x) ∧ Hid (Rd wl (some ⟨q, 0, none⟩) [.int .i64 256, .int .i64 512, .int .i64 1024]) ∧ Hid (Below w.heap.size w wl)) (fun _ i _ => 3 - (intOf i).toNat)
      case atStart => exact ⟨0, by omega, rfl, rfl, hbk2, M, RB, bb⟩
      case round =>
        clear hbk2 M RB bb
        obtain ⟨k, hk, rfl, rfl, hbk2, M, RB, bb⟩ := hrel
        by_cases hk3 : k < 3
        · rename_i aa
          clear aa
          have d0 : decide ((k : Int) < 3) = true := decide_eq_true (by omega)
          have hkk : (0 : Int) ≤ (k : Int) := by omega
          have hk3' : (k : Int) < 3 := by omega
          obtain ⟨B, hB⟩ : ∃ B, bkt k = B := ⟨_, rfl⟩
          have hy : wr.cell? ⟨q, k, none⟩ = some (.int .i64 B) := by
            obtain ⟨b, off, e, h⟩ := RB.out (by simp)
            injection e with e
            injection e with e1 e2
            subst e1 e2
            have h2 := h k (.int .i64 B) (by rw [← hB]; match k, hk3 with | 0, _ => rfl | 1, _ => rfl | 2, _ => rfl)
            rwa [Nat.zero_add] at h2
          have x0 := M.out.c0
          have x1 := M.out.c1
          have hbB := bkt_ok k
          rw [hB] at hbB
          have hBd := bok_bd hbB
          obtain ⟨F, hF⟩ : ∃ F, fnd fs D k = F := ⟨_, rfl⟩
          obtain ⟨E, hE⟩ : ∃ E, ltE fs D B = E := ⟨_, rfl⟩
          have hE2 : E = 0 ∨ E = 4 := by
            rw [← hE, ltE_two D hPP.out B hbB]
            cases ltfits (ltplain fs D).1.length B <;> simp
          have hy1 : E = 0 → fnd fs D (k + 1) = if F = 0 then B else F := fun h => by rw [fnd_yes (by rw [hB, hE, h]), hF, hB]
          have hy2 : E = 4 → fnd fs D (k + 1) = F := fun h => by rw [fnd_no (by rw [hB, hE, h]), hF]
          replace hy1 := Lib.hid hy1
          replace hy2 := Lib.hid hy2
          have CP := Lib.hid (fun W (h : Below wr.heap.size wr W) => (M.out.below h).r.put (c := c) (d := x) (hbk2.out.below h) B E hE)
          replace hE := Lib.hid hE
          replace hF := Lib.hid hF
          rw [hF.out]
          replace hB := Lib.hid hB
          replace hbB := Lib.hid hbB
          have HS0 : Hid (wr.cell? ⟨p, 0, none⟩ = some (.slice A4 n c) ∧ wr.cell? ⟨p, 1, none⟩ = some (.slice X L x) ∧ wr.cell? ⟨q, k, none⟩ = some (.int .i64 B)) := Lib.hid ⟨x0, x1, hy⟩
          have HSB : Hid (∀ W, Below wr.heap.size wr W → W.cell? ⟨p, 0, none⟩ = some (.slice A4 n c) ∧ W.cell? ⟨p, 1, none⟩ = some (.slice X L x) ∧ W.cell? ⟨q, k, none⟩ = some (.int .i64 B)) := Lib.hid (fun W b => by
            refine ⟨(M.out.below b).c0, (M.out.below b).c1, ?_⟩
            rw [b.cell (p := ⟨q, k, none⟩) (World.block_lt_of_cell? _ _ hy)]
            exact hy)
          clear x0 x1 hy
          go_wp2_with fail
          go_region_held3 (fun W => W.cell? ⟨p, 0, none⟩ = some (.slice A4 n c) ∧ W.cell? ⟨p, 1, none⟩ = some (.slice X L x) ∧ W.cell? ⟨q, k, none⟩ = some (.int .i64 B)) (first | assumption | exact HS0.out | exact HSB.out _ (by assumption))
            ((go_at_call 10; ((with_reducible refine (CP.out _ (Still.drew wr).below).mono ?_); rintro e w5 ⟨R, Y, r, y, rfl, hk5, hR, hY, hry, hyy, hr2, b5⟩; replace b5 : Below wr.heap.size wr w5 := (Still.drew wr).below.trans b5)))
          rename_i hheld
          clear hheld CP
          obtain ⟨x0, x1, hy⟩ := HSB.out _ b5
          replace M := Lib.hid (M.out.below b5)
          replace RB := Lib.hid (RB.out.below b5)
          replace bb := Lib.hid (bb.out.trans (b5.mono bb.out.size))
          replace hbk2 := Lib.hid (hbk2.out.below b5)
          replace hY := Lib.hid hY
          clear b5 HS0 HSB
          rcases hE2 with rfl | rfl
          · have hr : (r : Int) = B := by rw [← hk5]; exact (hR.2 hE.out).1
            have hget := Lib.hid (lget_put (by rw [hD.out]; omega) hE.out hR)
            replace hk5 := Lib.hid hk5
            obtain ⟨F2, hF2⟩ : ∃ F2, (if F = 0 then B else F) = F2 := ⟨_, rfl⟩
            replace hy1 : Hid (fnd fs D (k + 1) = F2) := Lib.hid (by rw [hy1.out rfl, hF2])
            clear hy2 hR
            subst hr
            obtain ⟨mN, hmN⟩ : ∃ mN : Nat, mN + 1 = r := ⟨r - 1, by omega⟩
            have q1 : IntKind.i64.wrap ((r : Int) - 1) = (mN : Int) := by rw [IntKind.wrap_i64]; omega
            have qm := fun W => run_min2 (P := Tryd.prog) (r : Int) (mN : Int) (mN : Int) (by omega) #[3, 3] 3 W
            have qs := cut_hI (P := Tryd.prog) Tryd.underlying23 infoB Y r y mN (mN : Int) rfl (by omega)
            have hb13 : bok (mN : Int) = false := by
              have h1 := of_decide_eq_true hbB.out
              exact decide_eq_false (by omega)
            have hg13 := Lib.hid (lget_bucket (R.take mN) (by rw [List.length_take, hk5.out, Nat.min_eq_left (by omega)]; exact hb13))
            have hln := Lib.hid (show (R.take mN).length = mN by rw [List.length_take, hk5.out, Nat.min_eq_left (by omega)])
            have hmr : mN ≤ y ∧ mN ≤ 1000000 ∧ r ≤ 1000000 := by omega
            have t3 : ((r : Int) != (r : Int)) = false := bne_self_eq_false _
            have t13 : ((13 : Int) != 13) = false := rfl
            clear hb13
            replace hmN := Lib.hid hmN
            have fin : ∃ tb : Bool, (F == 0) = tb ∧ F2 = (if tb then (r : Int) else F) := ⟨_, rfl, by rw [← hF2]; by_cases h : F = 0 <;> simp [h]⟩
            obtain ⟨tb, htb, hF3⟩ := fin
            clear hF2
            replace hF3 := Lib.hid hF3
            have hF4 : ∀ tb', tb = tb' → Hid (F2 = (if tb' then (r : Int) else F)) := fun tb' e => by subst e; exact hF3
            clear hF3
            replace hF4 := Lib.hid hF4
            cases tb
            all_goals
              go_wp2_with (at_builtin; refine wpList_app _ rfl _ _ 23 rfl w5.heap.size 5 (.int .u8 0) 1 infoB Tryd.underlying23 rfl (.slice none 0 0) 0 [] rfl (World.ownsRow_nil _ _ _ _) Y r y (bv R) rfl (by rw [bv_length, hk5.out]) hY.out (bv_one R) (by unfold maxLen; omega) (by omega) (Nat.le_refl _) ?_; intro A6 c6 w6 ho6 hg6 _)
              have b6 : Below w5.heap.size w5 w6 := (Below.refl _ _).grown hg6 (Nat.le_refl _) (by simp [Value.ownBlock])
              replace ho6 : w6.ownsRow w5.heap.size 5 1 (.slice A6 r c6) r (bv R) := by simpa using ho6
              have hc6 := RetS.cap ho6
              replace M := Lib.hid (M.out.below b6)
              replace RB := Lib.hid (RB.out.below b6)
              replace bb := Lib.hid (bb.out.trans (b6.mono bb.out.size))
              replace hbk2 := Lib.hid (hbk2.out.below b6)
              replace hY := Lib.hid (hY.out.below b6)
              have hy6 : w6.cell? ⟨q, k, none⟩ = some (.int .i64 (r : Int)) := by rw [b6.cell (p := ⟨q, k, none⟩) (World.block_lt_of_cell? _ _ hy)]; exact hy
              have R6 := Lib.hid (Rd.of_own ho6)
              clear b6 ho6 hg6 x0 x1 hy
              refine (get_to R A6 r c6 w6 hbk2.out hk5.out R6.out hc6.1 hc6.2 hmr.2.2 fs D 0 hget.out).mono ?_
              rintro e w7 ⟨Z, z, U, u, rfl, hZ, hU, b7⟩
              have hfln := M.out.r.ln
              rw [hfln, hD.out]
              have Q0 : MR w7 fs D Z n U L := ⟨hZ, hU, hfln, hD.out, M.out.r.bn, M.out.r.bm, M.out.r.hs⟩
              replace hfln := Lib.hid hfln
              obtain ⟨g7, hg7⟩ : ∃ g, w7.heap.size = g := ⟨_, rfl⟩
              obtain ⟨w8, hw8⟩ : ∃ W, w7.alloc (.cells #[.slice Z n z, .slice U L u] 25) = W := ⟨_, rfl⟩
              have b8 : Below w6.heap.size w6 w8 := by rw [← hw8]; exact b7.alloc b7.size _
              have N8 : Hid (Msg w8 g7 fs D Z n z U L u) := Lib.hid (by rw [← hw8]; exact Q0.alloc hg7)
              replace M := Lib.hid (M.out.below b8)
              replace RB := Lib.hid (RB.out.below b8)
              replace bb := Lib.hid (bb.out.trans (b8.mono bb.out.size))
              replace hbk2 := Lib.hid (hbk2.out.below b8)
              replace hY := Lib.hid (hY.out.below b8)
              have hy8 : w8.cell? ⟨q, k, none⟩ = some (.int .i64 (r : Int)) := by rw [b8.cell (p := ⟨q, k, none⟩) (World.block_lt_of_cell? _ _ hy6)]; exact hy6
              rw [← hw8] at hy8
              clear b7 b8 hZ hU Q0 hy6 R6 hc6
              replace hw8 := Lib.hid hw8
              go_wp2_with fail
              rw [hw8.out]
              refine (get_to (R.take mN) Y mN y w8 hbk2.out hln.out (hY.out.take_bytes mN) hmr.1 (by omega) hmr.2.1 [] [] 13 hg13.out).mono ?_
              rintro e w9 ⟨Z2, z2, U2, u2, rfl, hZ2, hU2, b9⟩
              obtain ⟨w10, hw10⟩ : ∃ W, w9.alloc (.cells #[.slice Z2 0 z2, .slice U2 0 u2] 25) = W := ⟨_, rfl⟩
              have b10 : Below w8.heap.size w8 w10 := by rw [← hw10]; exact b9.alloc b9.size _
              rw [hw8.out] at hy8
              replace N8 := Lib.hid (N8.out.below b10)
              replace M := Lib.hid (M.out.below b10)
              replace RB := Lib.hid (RB.out.below b10)
              replace bb := Lib.hid (bb.out.trans (b10.mono bb.out.size))
              replace hbk2 := Lib.hid (hbk2.out.below b10)
              have hy10 : w10.cell? ⟨q, k, none⟩ = some (.int .i64 (r : Int)) := by rw [b10.cell (p := ⟨q, k, none⟩) (World.block_lt_of_cell? _ _ hy8)]; exact hy8
              have m0 := M.out.c0
              have m1 := M.out.c1
              have n0 := N8.out.c0
              have n1 := N8.out.c1
              rw [← hw10] at hy10 m0 m1 n0 n1
              simp only [List.length_nil]
              clear b9 b10 hZ2 hU2 hy8 hw8 hY hg7
              replace hw10 := Lib.hid hw10
              go_wp2_with fail
              rw [hw10.out]
              refine (N8.out.r.same M.out.r true (by simp)).mono ?_
              rintro e w11 ⟨rfl, b11⟩
              replace M := Lib.hid (M.out.below b11)
              replace RB := Lib.hid (RB.out.below b11)
              replace bb := Lib.hid (bb.out.trans (b11.mono bb.out.size))
              replace hbk2 := Lib.hid (hbk2.out.below b11)
              clear b11 hy10 m0 m1 n0 n1 N8 hw10
              replace hF4 := hF4.out _ rfl
              go_wp2_with fail
              go_roundw
              case rel => exact ⟨k + 1, by omega, by rw [hy1.out, hF4.out]; first | rfl | simp, by go_num, hbk2, M, RB, bb⟩
              case measure => simp [intOf]; omega
          · have hr0 : r = 0 := by rw [← hk5, hR.1 (by rw [hE.out]; decide)]; rfl
            subst hr0
            replace hy2 : Hid (fnd fs D (k + 1) = F) := Lib.hid (hy2.out rfl)
            clear hy1 hk5 hR hY x0 x1 hy
            go_wp2_with fail
            go_roundw
            case rel => exact ⟨k + 1, by omega, by rw [hy2.out], by go_num, hbk2, M, RB, bb⟩
            case measure => simp [intOf]; omega
        · obtain rfl : k = 3 := by omega
          have d0 : decide ((3 : Int) < 3) = false := by decide
          have x0 := M.out.c0
          have x1 := M.out.c1
          rw [hfnd.out]
          obtain ⟨j5, hj5, L5⟩ := low_ex long 255 (by omega) (by omega)
          replace L5 : Hid (∀ w : World, Calls Tryd.prog 18 #[.int .i64 long, .int .i64 255] w fun e w' => e = .returned (.int .i64 j5) ∧ w = w') := Lib.hid L5
          have E13 : ltE fs D ((257 : Int) + (j5 : Int)) = 13 := by
            unfold ltE
            rw [if_pos (show bok ((257 : Int) + (j5 : Int)) = false from decide_eq_false (by omega))]
          have q5 : IntKind.i64.wrap ((257 : Int) + (j5 : Int)) = (257 : Int) + (j5 : Int) := by rw [IntKind.wrap_i64]; omega
          have CP := Lib.hid (fun W (h : Below wr.heap.size wr W) => (M.out.below h).r.put (c := c) (d := x) (hbk2.out.below h) ((257 : Int) + (j5 : Int)) 13 E13)
          have tLE : (LE == LE) = true := beq_self_eq_true _
          clear E13
          have HS0 : Hid (wr.cell? ⟨p, 0, none⟩ = some (.slice A4 n c) ∧ wr.cell? ⟨p, 1, none⟩ = some (.slice X L x)) := Lib.hid ⟨x0, x1⟩
          have HSB : Hid (∀ W, Below wr.heap.size wr W → W.cell? ⟨p, 0, none⟩ = some (.slice A4 n c) ∧ W.cell? ⟨p, 1, none⟩ = some (.slice X L x)) := Lib.hid (fun W b => ⟨(M.out.below b).c0, (M.out.below b).c1⟩)
          clear x0 x1
          go_wp2_with fail
          go_region_held3 (fun W => W.cell? ⟨p, 0, none⟩ = some (.slice A4 n c) ∧ W.cell? ⟨p, 1, none⟩ = some (.slice X L x)) (first | assumption | exact HS0.out | exact HSB.out _ (by assumption))
            (first
              | ((go_at_call 10; ((with_reducible refine (CP.out _ (Still.drew wr).below).mono ?_); rintro e w5 ⟨R, Y, r, y, rfl, hk5, hR, hY, hry, hyy, hr2, b5⟩; replace b5 : Below wr.heap.size wr w5 := (Still.drew wr).below.trans b5)))
              | ((go_at_call 18; ((with_reducible refine (L5.out _).mono ?_); rintro e w4 ⟨rfl, rfl⟩))))
          rename_i hheld
          clear hheld CP HS0 HSB L5
          replace bb := Lib.hid (bb.out.trans (b5.mono bb.out.size))
          replace hbk2 := Lib.hid (hbk2.out.below b5)
          clear b5 hY hR hk5
          go_wp2_with fail
          refine (awake_any _ hbk2.out).mono ?_
          rintro e w6 ⟨rfl, b6⟩
          go_wp2_with fail
          go_ret
          exact ⟨rfl, bb.out.trans (b6.mono bb.out.size)⟩

theorem ltsame_any (long : Int) (ns : List Int) (A : Option Addr) (cap n : Nat) (w : World) (hbk : BK w) (hn : ns.length = n) (hr : Rd w A (ns.map (Value.int .i64))) (hnm : n ≤ 9223372036854775807) :
    Calls Tryd.prog 6 #[.int .i64 long, .slice A n cap] w fun e w' => e = .returned (.bool true) ∧ Below w.heap.size w w' := by
  by_cases h3 : n ≤ 3
  · obtain ⟨L, hL, L0⟩ := low_ex long 1101 (by omega) (by omega)
    exact ltsame_in long ns A cap n w hbk hn hr h3 L (by omega) (Lib.hid L0)
  · have d3 : decide ((3 : Int) < (n : Int)) = true := decide_eq_true (by omega)
    clear hn hr
    go_enter Tryd.func6, Tryd.ntmps6
    go_wp2_with fail
    refine (awake_any _ hbk).mono ?_
    rintro e w1 ⟨rfl, b1⟩
    go_wp2_with fail
    go_ret
    exact ⟨rfl, b1⟩
end Go.Proofs.YtdldipkbknhhoaaDoor

/- A slice of api.Field that came in: how it reads; how long its strings may be. -/
namespace Go.Proofs.YtdldipkbknhhoaaDoor
open Go.ChangeShapes Go.WideShapes Go.ChangeAt Go.RowKit

theorem weightsAll_in {H : Type} {P : Program} {e : TypeId} {d : DataW H} {n : Nat} (hn : n ∈ d.weights P e) : ∀ {l : List (DataW H)}, d ∈ l → n ∈ DataW.weightsAll P e l
  | x :: l, h => by
    simp only [DataW.weightsAll, List.mem_append]
    rcases List.mem_cons.1 h with rfl | h
    · exact .inl hn
    · exact .inr (weightsAll_in hn h)
theorem open_recsF {H : Type} {enc : TypeId × Value → H} {P : Program} {w : World} {t e : TypeId} {f0 f1 : Field} {base : Nat} {a : Option Addr} {len cap : Nat} {d : DataW H} {ps : List MemPlace}
    (ht : P.underlying t = some (.slice e)) (he : P.underlying e = some (.struct #[f0, f1])) (ce : P.cellsOf e = 2) (o0 : f0.offset = 0) (o1 : f1.offset = 1) (c0 : P.cellsOf f0.type = 1) (c1 : P.cellsOf f1.type = 1)
    (s0 : P.underlying f0.type = some .string) (s1 : P.underlying f1.type = some .string) (hw : ∀ n ∈ d.weights P t, n ≤ reachBytes)
    (h : DataW.Trod enc P w base (fun _ => true) true t (.slice a len cap) d ps) :
    ∃ z : List Fd, z.length = len ∧ Rd w a (fdv z) ∧ len ≤ cap ∧ cap ≤ 9223372036854775807 ∧ ∀ x ∈ z, x.name.size ≤ reachBytes ∧ x.value.size ≤ reachBytes := by
  obtain ⟨fuel, hf⟩ := h
  rcases Go.Deep.open_slice_pairs ht he ce o0 o1 c0 c1 hf with ⟨hcs, _⟩ | ⟨a', len', cap', m, n, V0, V1, D0, D1, P0, P1, hcs, _, hl, hm, hmm, hd, hx⟩
  · simp [Value.cells] at hcs
    obtain ⟨rfl, rfl, rfl⟩ := hcs
    exact ⟨[], rfl, Rd.nil _ _, by omega, by omega, fun x hx => by cases hx⟩
  · simp [Value.cells] at hcs
    obtain ⟨rfl, rfl, rfl⟩ := hcs
    have hm' : len ≤ m := by rw [hmm]; simp only [if_true]; exact hl
    simp only [Prod.mk.injEq] at hd
    have each : ∀ i, i < len → ∃ f : Fd, w.cell? (a'.add (i * 2)) = some (.string f.name) ∧ w.cell? (a'.add (i * 2 + 1)) = some (.string f.value) ∧ f.name.size ≤ reachBytes ∧ f.value.size ≤ reachBytes := fun i hi => by
      obtain ⟨g0, g1, t0, t1⟩ := hx i (by omega)
      obtain ⟨q0, e0, x0, _⟩ := DataW.trod_string s0 t0
      obtain ⟨q1, e1, x1, _⟩ := DataW.trod_string s1 t1
      simp only [List.cons.injEq, and_true] at e0 e1
      simp only [Prod.mk.injEq] at x0 x1
      have hin : ∀ n, n ∈ (DataW.agg [D0 i, D1 i]).weights P e → n ≤ reachBytes := fun n hn => hw n (by
        rw [hd.1]
        simp only [DataW.weights, ht, List.mem_cons, List.mem_append]
        exact .inr (.inl (weightsAll_in hn (List.mem_map.2 ⟨i, List.mem_range.2 hi, rfl⟩))))
      refine ⟨⟨q0, q1⟩, by rw [g0, e0], by rw [g1, e1], ?_, ?_⟩
      · have := hin q0.data.toList.length (by simp [DataW.weights, he, DataW.weightsEach, x0.1])
        rwa [Array.length_toList] at this
      · have := hin q1.data.toList.length (by simp [DataW.weights, he, DataW.weightsEach, x1.1])
        rwa [Array.length_toList] at this
    obtain ⟨f, hf'⟩ : ∃ f : Nat → Fd, ∀ i, i < len → w.cell? (a'.add (i * 2)) = some (.string (f i).name) ∧ w.cell? (a'.add (i * 2 + 1)) = some (.string (f i).value) ∧ (f i).name.size ≤ reachBytes ∧ (f i).value.size ≤ reachBytes :=
      ⟨fun i => if hi : i < len then (each i hi).choose else ⟨.empty, .empty⟩, fun i hi => by simp only [dif_pos hi]; exact (each i hi).choose_spec⟩
    refine ⟨(List.range len).map f, by simp, fun hp => ?_, hl, by unfold maxLen at hm; omega, fun x hx => ?_⟩
    · simp at hp
      have h0 := (hf' 0 hp).1
      obtain ⟨b, off, spot⟩ := a'
      have hspot : spot = none := by simpa [Addr.add] using World.cell?_spot h0
      subst hspot
      refine ⟨b, off, rfl, fun j u hu => ?_⟩
      have hj : j < len * 2 := by have := (List.getElem?_eq_some_iff.1 hu).1; simpa using this
      have hz : ((List.range len).map f)[j / 2]? = some (f (j / 2)) := by rw [List.getElem?_map, List.getElem?_range (by omega)]; rfl
      rw [← WideShapes.add_plain]
      rcases (by omega : j % 2 = 0 ∨ j % 2 = 1) with h1 | h1
      · have h2 := rv_get Fd.cells fdc _ (j / 2) _ hz 0 (.string (f (j / 2)).name) rfl
        have h3 := (hf' (j / 2) (by omega)).1
        rw [show j / 2 * 2 + 0 = j by omega, hu] at h2
        rw [show j / 2 * 2 = j by omega] at h3
        rw [h3, h2]
      · have h2 := rv_get Fd.cells fdc _ (j / 2) _ hz 1 (.string (f (j / 2)).value) rfl
        have h3 := (hf' (j / 2) (by omega)).2.1
        rw [show j / 2 * 2 + 1 = j by omega, hu] at h2
        rw [show j / 2 * 2 + 1 = j by omega] at h3
        rw [h3, h2]
    · obtain ⟨i, hi, rfl⟩ := List.mem_map.1 hx
      exact (hf' i (List.mem_range.1 hi)).2.2
end Go.Proofs.YtdldipkbknhhoaaDoor

/- A slice of bytes, or of integers, that came in reads as a list. -/
namespace Go.Proofs.YtdldipkbknhhoaaDoor
open Go.RowKit

/-- A slice of bytes that came in reads as a list of bytes. -/
theorem row_u8 {w : World} {a : Option Addr} {len cap : Nat} {zs : List Int}
    (h : (a = none ∧ len = 0 ∧ cap = 0 ∧ zs = []) ∨ ∃ x, a = some x ∧ len ≤ cap ∧ cap ≤ maxLen ∧ zs.length = cap ∧ (∀ i, i < zs.length → w.cell? (x.add i) = some (.int .u8 (zs.getD i 0))) ∧ ∀ n ∈ zs, (Lit.int .u8 n).wf = true) :
    ∃ l : List UInt8, l.length = len ∧ Rd w a (bv l) ∧ l.length ≤ cap ∧ cap ≤ 9223372036854775807 := by
  rcases h with ⟨rfl, rfl, rfl, _⟩ | ⟨x, rfl, hl, hm, hz, hc, hw⟩
  · exact ⟨[], rfl, Rd.nil _ _, by simp, by omega⟩
  · refine ⟨(zs.take len).map fun z => UInt8.ofNat z.toNat, by simp; omega, ?_, by simp; omega, by simpa [maxLen] using hm⟩
    intro hn
    have hn' : 0 < len := by simp at hn; omega
    obtain ⟨b, off, rfl, hcell⟩ := ints_at hc (by omega)
    refine ⟨b, off, rfl, fun k u hu => ?_⟩
    have hk : k < len := by
      have := (List.getElem?_eq_some_iff.1 hu).1
      simp at this; omega
    have hkz : k < zs.length := by omega
    rw [hcell k hkz]
    have hmem := hw zs[k] (List.getElem_mem hkz)
    have hb := bounds_u8 hmem
    have e : (bv ((zs.take len).map fun z => UInt8.ofNat z.toNat))[k]? = some (.int .u8 zs[k]) := by
      simp [bv, hk, hkz]
      omega
    rw [e] at hu
    injection hu with hu
    rw [← hu]
    simp [List.getD, hkz]

/-- A slice of numbers that came in reads as a list of them. -/
theorem row_int {k : IntKind} {w : World} {a : Option Addr} {len cap : Nat} {zs : List Int}
    (h : (a = none ∧ len = 0 ∧ cap = 0 ∧ zs = []) ∨ ∃ x, a = some x ∧ len ≤ cap ∧ cap ≤ maxLen ∧ zs.length = cap ∧ (∀ i, i < zs.length → w.cell? (x.add i) = some (.int k (zs.getD i 0))) ∧ ∀ n ∈ zs, (Lit.int k n).wf = true) :
    ∃ l : List Int, l.length = len ∧ Rd w a (l.map (Value.int k)) ∧ l.length ≤ cap ∧ cap ≤ 9223372036854775807 ∧ ∀ n ∈ l, (Lit.int k n).wf = true := by
  rcases h with ⟨rfl, rfl, rfl, _⟩ | ⟨x, rfl, hl, hm, hz, hc, hw⟩
  · exact ⟨[], rfl, Rd.nil _ _, by simp, by omega, by simp⟩
  · refine ⟨zs.take len, by simp; omega, ?_, by simp; omega, by simpa [maxLen] using hm, fun n hn => hw n (List.mem_of_mem_take hn)⟩
    intro hn
    have hn' : 0 < len := by simp at hn; omega
    obtain ⟨b, off, rfl, hcell⟩ := ints_at hc (by omega)
    refine ⟨b, off, rfl, fun j u hu => ?_⟩
    have hk : j < len := by
      have := (List.getElem?_eq_some_iff.1 hu).1
      simp at this; omega
    have hkz : j < zs.length := by omega
    rw [hcell j hkz]
    have e : ((zs.take len).map (Value.int k))[j]? = some (.int k zs[j]) := by simp [hk, hkz]
    rw [e] at hu
    injection hu with hu
    rw [← hu]
    simp [List.getD, hkz]

end Go.Proofs.YtdldipkbknhhoaaDoor

/- What the listed variable gives: the buckets' cells. A message that came in. -/
namespace Go.Proofs.YtdldipkbknhhoaaDoor
open Go.ChangeShapes Go.WideShapes Go.ChangeAt Go.RowKit

theorem gBuckets : Tryd.prog.globalNamed "mantilla/letter.buckets" = some 0 := by kernel_rfl
theorem tBuckets : (Tryd.prog.globals[0]?).map (·.type) = some 52 := by kernel_rfl
theorem bk_of_laid {W : World} (h : laidMet Tryd.prog [("mantilla/letter.buckets", Rows.laid_mantilla_letter_buckets)] W) : BK W := by
  obtain ⟨ps, ⟨g1, t1, cs1, f1, p1, q1, hg1, ht1, hv1, hd1, _, _⟩, _⟩ := h
  obtain rfl := Option.some.inj (gBuckets.symm.trans hg1)
  obtain rfl := Option.some.inj (tBuckets.symm.trans ht1)
  obtain ⟨xs, m1, rfl, hx1, hlen, hn3, hel⟩ := DataW.trod_array Tryd.underlying52 hd1
  have c3 : Tryd.prog.cellsOf 3 = 1 := by kernel_rfl
  simp only [Rows.laid_mantilla_letter_buckets, Prod.mk.injEq, DataW.agg.injEq] at hx1
  have h0 := hel 0 (by decide)
  have h1 := hel 1 (by decide)
  have h2 := hel 2 (by decide)
  match xs, hn3, hx1, h0, h1, h2 with
  | [x0, x1, x2], _, hx1, h0, h1, h2 =>
    simp only [List.map_cons, List.map_nil, List.cons.injEq] at hx1
    obtain ⟨k0, e0, y0, _⟩ := DataW.trod_int Tryd.underlying3 (show DataW.trod _ Tryd.prog W 0 _ false m1 3 _ = some x0 from h0)
    obtain ⟨k1, e1, y1, _⟩ := DataW.trod_int Tryd.underlying3 (show DataW.trod _ Tryd.prog W 0 _ false m1 3 _ = some x1 from h1)
    obtain ⟨k2, e2, y2, _⟩ := DataW.trod_int Tryd.underlying3 (show DataW.trod _ Tryd.prog W 0 _ false m1 3 _ = some x2 from h2)
    have z0 : k0 = 256 := by rw [y0] at hx1; simpa using hx1.1.1.symm
    have z1 : k1 = 512 := by rw [y1] at hx1; simpa using hx1.1.2.1.symm
    have z2 : k2 = 1024 := by rw [y2] at hx1; simpa using hx1.1.2.2.1.symm
    subst z0 z1 z2
    have hc := fun i => World.var?_cell hg1 hv1 i
    obtain ⟨l1⟩ := cs1
    rw [c3] at e0 e1 e2
    match l1, e0, e1, e2 with
    | c0 :: c1 :: c2 :: _, e0, e1, e2 =>
      simp at e0 e1 e2
      subst e0 e1 e2
      exact ⟨by simpa using hc 0, by simpa using hc 1, by simpa using hc 2⟩
end Go.Proofs.YtdldipkbknhhoaaDoor
