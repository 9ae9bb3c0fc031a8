/- FieldsCuts: it is true at every input. -/
import Derived.Test.YtjkimabcpamdcaaFdM
import Derived.Deep.RegionHeld3
import Derived.Deep.CutRange
namespace Go.Proofs.Ytjkimabcpamdcaa
open Go.RowKit

theorem step_appS {P : Program} {w : World} {ops : Array Oper} {o : Oper} {a : Act} {K : Act → World → Prop} {Q : Exit → Act → World → Prop} {E : Prop} (hgd : o.guard = none) (s x : Operand) (t : TypeId)
    (ho : o.op = .call { callee := .builtin .append, args := #[s, x], argTypes := #[t, t] })
    (base : Nat) (e : TypeId) (z : Value) (size bytes : Nat) (hinfo : (P.info? e).map (fun i => (i.zero, i.size, i.bytes)) = some (some z, size, bytes)) (ht : P.underlying t = some (.slice e)) (hzs : z.cells.size = size) (hsz : 0 < size)
    (v : Value) (n : Nat) (xs : List Value) (hs : a.eval s = v) (hown : w.ownsRow base e size v n xs)
    (ad : Addr) (m c : Nat) (news : List Value) (hx : a.eval x = .slice (some ad) m c) (hl : news.length = m * size) (hr : ∀ j u, news[j]? = some u → w.cell? (ad.add j) = some u) (h1 : ∀ u ∈ news, u.oneCell' = true)
    (h63 : n + m ≤ maxLen) (hbytes : (n + m) * bytes ≤ 140737488355328) (hbase : base ≤ w.heap.size)
    (h : ∀ A' c' w', w'.ownsRow base e size (.slice A' (n + m) c') (n + m) (xs ++ news) → w.grownBy w' v.ownBlock →
      ((Value.slice A' (n + m) c').ownBlock = v.ownBlock ∨ (Value.slice A' (n + m) c').ownBlock = some w.heap.size) → K (a.put o.dst (.slice A' (n + m) c')) w') :
    if Region.wanted o (yielded ops a.tmps) = true then Oper.wp P o a w K Q else E := by
  have hw : Region.wanted o (yielded ops a.tmps) = true := by simp [Region.wanted, hgd]
  rw [if_pos hw]
  obtain ⟨i, hi, hz, hsize, hby⟩ := info_parts hinfo
  exact wp_appS s x t ho base e i z size bytes ht hi hz hsize hby hzs hsz v n xs hs hown ad m c news hx hl hr h1 h63 hbytes hbase h

theorem wpAnyH_mono {P : Program} {md : Region.Mode} {ops : Array Oper} {Q : Exit → Act → World → Prop} {S T : World → Prop} (h : ∀ w, S w → T w) :
    ∀ (fuel : Nat) (listed : Array Bool) (a : Act) (w : World), wpAnyH P md ops Q S fuel listed a w → wpAnyH P md ops Q T fuel listed a w
  | 0, _, _, _, H => H
  | fuel + 1, _, _, _, H => ⟨H.1, fun i hi => wpOp_mono (fun a' w' h' => ⟨h _ h'.1, wpAnyH_mono h fuel _ a' w' h'.2⟩) (H.2 i hi)⟩

set_option maxRecDepth 100000 in
set_option maxHeartbeats 8000000 in
theorem cuts_in (gs : List Int) (cut : Int) (A : Option Addr) (cap n : Nat) (w : World) (hn : gs.length = n) (hr : Rd w A (gs.map (Value.int .i64))) (hn10 : n ≤ 10) :
    Calls Try.prog 6 #[.slice A n cap, .int .i64 cut] w fun e w' => e = .returned (.bool true) ∧ Below w.heap.size w w' := by
  have b1 : decide ((10 : Int) < (n : Int)) = false := decide_eq_false (by omega)
  have HR := Lib.hid hr
  replace hn := Lib.hid hn
  clear hr
  go_enter Try.func6, Try.ntmps6
  go_wp2_with fail
  clear b1
  go_loopw [5, 6] (fun v i wr => ∃ (k c : Nat) (A4 : Option Addr), k ≤ n ∧ v = .slice A4 k c ∧ i = .int .i64 k ∧ Hid (wr.ownsRow w.heap.size 24 2 (.slice A4 k c) k (fdv ((gs.take k).map cfd)) ∧ Below w.heap.size w wr)) (fun _ i _ => n - (intOf i).toNat)
  case atStart => exact ⟨0, 0, none, by omega, rfl, rfl, Lib.hid ⟨World.ownsRow_nil _ _ _ _, Below.refl _ _⟩⟩
  case round =>
    obtain ⟨k, c, A4, hk, rfl, rfl, HS⟩ := hrel
    by_cases hkn : k < n
    · rename_i aa
      clear aa
      have d0 : decide (k < n) = true := decide_eq_true hkn
      have d1 : decide ((k : Int) < (n : Int)) = true := decide_eq_true (by omega)
      have hlt : k < gs.length := by rw [hn.out]; exact hkn
      obtain ⟨g, hg⟩ : ∃ g, gs[k] = g := ⟨_, rfl⟩
      obtain ⟨b, off, rfl, hx⟩ := (HR.out.below HS.out.2).at_ (k := k) (by rw [List.length_map]; exact hlt)
      rw [List.getElem_map, hg] at hx
      have hbw : Hid (b < w.heap.size) := Lib.hid (by obtain ⟨a1, e1, e2⟩ := Rd.lt HR.out (by rw [List.length_map]; omega); injection e1 with e1; subst e1; exact e2)
      have hx1 := fun o => Lib.cell?_alloc_some o hx
      have hx2 := fun o1 o2 => Lib.cell?_alloc_some o2 (Lib.cell?_alloc_some o1 hx)
      have htk : Hid ((gs.take (k + 1)).map cfd = (gs.take k).map cfd ++ [cfd g]) := Lib.hid (by rw [List.take_add_one, List.getElem?_eq_getElem hlt, hg]; simp)
      obtain ⟨q, hq⟩ : ∃ q, IntKind.i64.wrap (g.tdiv 4) = q := ⟨_, rfl⟩
      obtain ⟨i, hi⟩ : ∃ i, cix g 4 = i := ⟨_, rfl⟩
      obtain ⟨j, hj⟩ : ∃ j, cix q 4 = j := ⟨_, rfl⟩
      have LA : Hid (∀ W : World, Calls Try.prog 12 #[.int .i64 g, .int .i64 4] W fun e w' => e = .returned (.int .i64 (cix g 4)) ∧ W = w') := Lib.hid (fun W => cix_any g 4 W (by omega) (by omega))
      have LB : Hid (∀ W : World, Calls Try.prog 12 #[.int .i64 q, .int .i64 4] W fun e w' => e = .returned (.int .i64 (cix q 4)) ∧ W = w') := Lib.hid (fun W => cix_any q 4 W (by omega) (by omega))
      have hi4 : cix g 4 < 4 := (cix_bd g 4 (by omega) (by omega)).1
      have hj4 : cix q 4 < 4 := (cix_bd q 4 (by omega) (by omega)).1
      rw [hi] at LA hi4
      rw [hj] at LB hj4
      have hcf : cfd g = ⟨n4 i, v4 j⟩ := by unfold cfd; rw [hq, hi, hj]
      obtain ⟨fa, hfa⟩ : ∃ fa, n4 i = fa := ⟨_, rfl⟩
      obtain ⟨fb, hfb⟩ : ∃ fb, v4 j = fb := ⟨_, rfl⟩
      rw [hfa, hfb] at hcf
      have hN : ∀ W : World, (W.alloc (.cells (n4l.map Value.string).toArray 9)).cell? ⟨W.heap.size, i, none⟩ = some (.string fa) := fun W => by
        rw [show (W.alloc (.cells (n4l.map Value.string).toArray 9)).cell? ⟨W.heap.size, i, none⟩ = (n4l.map Value.string)[i]? from cell_mark W _ _ (0, 0) i, ← hfa]
        unfold n4
        rw [List.getD_eq_getElem?_getD, List.getElem?_map, List.getElem?_eq_getElem (by exact hi4)]; rfl
      have hV : ∀ W : World, (W.alloc (.cells (v4l.map Value.string).toArray 9)).cell? ⟨W.heap.size, j, none⟩ = some (.string fb) := fun W => by
        rw [show (W.alloc (.cells (v4l.map Value.string).toArray 9)).cell? ⟨W.heap.size, j, none⟩ = (v4l.map Value.string)[j]? from cell_mark W _ _ (0, 0) j, ← hfb]
        unfold v4
        rw [List.getD_eq_getElem?_getD, List.getElem?_map, List.getElem?_eq_getElem (by exact hj4)]; rfl
      have hN1 : ∀ o : Obj, ((wr.alloc o).alloc (.cells (n4l.map Value.string).toArray 9)).cell? ⟨wr.heap.size + 1, i, none⟩ = some (.string fa) := fun o => by
        have := hN (wr.alloc o); rwa [World.size_alloc] at this
      have hV1 : ∀ o : Obj, ((wr.alloc o).alloc (.cells (v4l.map Value.string).toArray 9)).cell? ⟨wr.heap.size + 1, j, none⟩ = some (.string fb) := fun o => by
        have := hV (wr.alloc o); rwa [World.size_alloc] at this
      have hN0 := hN wr
      have hV0 := hV wr
      simp only [n4l, v4l, List.map_cons, List.map_nil] at hN1 hV1 hN0 hV0
      clear hN hV
      have hi0 : (0 : Int) ≤ (i : Int) := by omega
      have hj0 : (0 : Int) ≤ (j : Int) := by omega
      have hiI : (i : Int) < 4 := by omega
      have hjI : (j : Int) < 4 := by omega
      have hk0 : (0 : Int) ≤ (k : Int) := by omega
      replace hi := Lib.hid hi
      replace hj := Lib.hid hj
      replace hfa := Lib.hid hfa
      replace hfb := Lib.hid hfb
      replace hcf := Lib.hid hcf
      replace hg := Lib.hid hg
      have HO : Hid (∀ o1 o2 o3, (((wr.alloc o1).alloc o2).alloc o3).drew.ownsRow w.heap.size 24 2 (.slice A4 k c) k (fdv ((gs.take k).map cfd))) := Lib.hid (fun o1 o2 o3 => (Still.drew _).own (((HS.out.1.alloc o1).alloc o2).alloc o3))
      have HRec : Hid (∀ o1 o2, Rd (((wr.alloc o1).alloc o2).alloc (.cells #[.string fa, .string fb] 24)).drew (some ⟨wr.heap.size + 1 + 1, 0, none⟩) [.string fa, .string fb]) := Lib.hid (fun o1 o2 => (Rd.fresh_to (by simp only [World.size_alloc]) [.string fa, .string fb] 24 (0, 0)).drew)
      have HB3 : Hid (∀ o1 o2 o3, w.heap.size ≤ (((wr.alloc o1).alloc o2).alloc o3).drew.heap.size) := Lib.hid (fun o1 o2 o3 => by have := HS.out.2.size; show _ ≤ (((wr.alloc o1).alloc o2).alloc o3).heap.size; simp only [World.size_alloc]; omega)
      have HF : Hid (∀ A6 c6 w6 o1 o2 o3, w6.ownsRow w.heap.size 24 2 (.slice A6 (k + 1) c6) (k + 1) (fdv ((gs.take k).map cfd) ++ [.string fa, .string fb]) → (((wr.alloc o1).alloc o2).alloc o3).drew.grownBy w6 (Value.slice A4 k c).ownBlock → w6.ownsRow w.heap.size 24 2 (.slice A6 (k + 1) c6) (k + 1) (fdv ((gs.take (k + 1)).map cfd)) ∧ Below w.heap.size w w6) := Lib.hid (fun A6 c6 w6 o1 o2 o3 h6 g6 => by
        have F6 : Fr (fun q => (Value.slice A4 k c).ownBlock = some q) wr w6 := (((((Fr.refl _ wr).alloc o1).alloc o2).alloc o3).drew).grown g6 (fun _ hq _ => hq)
        refine ⟨by rw [htk.out, hcf.out, fdv_append]; exact h6, Fr.under HS.out.2 HS.out.2.size F6 (fun q hq _ => (HS.out.1.lt q hq).1)⟩)
      have HFc : Hid (∀ w6 o1 o2 o3, (((wr.alloc o1).alloc o2).alloc o3).drew.grownBy w6 (Value.slice A4 k c).ownBlock → ∀ (a : Addr) (v : Value), (((wr.alloc o1).alloc o2).alloc o3).drew.cell? a = some v → (a.block = b ∨ wr.heap.size ≤ a.block) → w6.cell? a = some v) := Lib.hid (fun w6 o1 o2 o3 g6 a v hv hbk => by
        have F6 : Fr (fun q => (Value.slice A4 k c).ownBlock = some q) (((wr.alloc o1).alloc o2).alloc o3).drew w6 := (Fr.refl _ _).grown g6 (fun _ hq _ => hq)
        refine (F6.cell (World.block_lt_of_cell? _ _ hv) (fun e => ?_)).trans hv
        have h1 := HS.out.1.lt _ e
        have h2 := hbw.out
        rcases hbk with h | h <;> omega)
      replace hx := hx
      clear htk hcf HS hk hi hj hg hfa hfb
      go_wp2_with fail
      refine wp_region_held_drew (S := fun W => W.cell? ⟨b, off + k, none⟩ = some (.int .i64 g)) (by kernel_rfl) (by first | assumption | go_keep) (fun hHeld => ?_)
      refine wpAnyH_take (i := 0) (v := ?_) rfl (by kernel_rfl) (by kernel_rfl) (by kernel_rfl) (fun _ _ _ h => h) (Or.inl ⟨by rfl, ?_⟩) (by assumption) ?_
      rotate_left 1
      · (intro w hSw; (try dsimp only at hSw); (try go_split_ands); go_simp; try with_reducible rfl)
      try simp only [Act.put, List.setIfInBounds_toArray, List.set_cons_zero, List.set_cons_succ, List.getElem_toArray, List.getElem_cons_zero, List.getElem_cons_succ]
      refine wpAnyH_take (i := 2) (v := ?_) rfl (by kernel_rfl) (by kernel_rfl) (by kernel_rfl) (fun _ _ _ h => h) (Or.inl ⟨by rfl, ?_⟩) (by assumption) ?_
      rotate_left 1
      · (intro w hSw; (try dsimp only at hSw); (try go_split_ands); go_simp; try with_reducible rfl)
      try simp only [Act.put, List.setIfInBounds_toArray, List.set_cons_zero, List.set_cons_succ, List.getElem_toArray, List.getElem_cons_zero, List.getElem_cons_succ]
      refine wpAnyH_take (i := 3) (v := ?_) rfl (by kernel_rfl) (by kernel_rfl) (by kernel_rfl) (fun _ _ _ h => h) (Or.inl ⟨by rfl, ?_⟩) (by assumption) ?_
      rotate_left 1
      · (intro w hSw; (try dsimp only at hSw); (try go_split_ands); go_simp; try with_reducible rfl)
      try simp only [Act.put, List.setIfInBounds_toArray, List.set_cons_zero, List.set_cons_succ, List.getElem_toArray, List.getElem_cons_zero, List.getElem_cons_succ]
      refine wpAnyH_take (i := 4) (v := ?_) rfl (by kernel_rfl) (by kernel_rfl) (by kernel_rfl) (fun _ _ _ h => h) (Or.inl ⟨by rfl, ?_⟩) (by assumption) ?_
      rotate_left 1
      · (intro w hSw; (try dsimp only at hSw); (try go_split_ands); go_simp; try with_reducible rfl)
      try simp only [Act.put, List.setIfInBounds_toArray, List.set_cons_zero, List.set_cons_succ, List.getElem_toArray, List.getElem_cons_zero, List.getElem_cons_succ]
      refine wpAnyH_take (i := 5) (v := ?_) rfl (by kernel_rfl) (by kernel_rfl) (by kernel_rfl) (fun _ _ _ h => h) (Or.inl ⟨by rfl, ?_⟩) (by assumption) ?_
      rotate_left 1
      · (intro w hSw; (try dsimp only at hSw); (try go_split_ands); go_simp; try with_reducible rfl)
      try simp only [Act.put, List.setIfInBounds_toArray, List.set_cons_zero, List.set_cons_succ, List.getElem_toArray, List.getElem_cons_zero, List.getElem_cons_succ]
      refine wpAnyH_take (i := 10) (v := ?_) rfl (by kernel_rfl) (by kernel_rfl) (by kernel_rfl) (fun _ _ _ h => h) (Or.inl ⟨by rfl, ?_⟩) (by assumption) ?_
      rotate_left 1
      · (intro w hSw; (try dsimp only at hSw); (try go_split_ands); go_simp; try with_reducible rfl)
      try simp only [Act.put, List.setIfInBounds_toArray, List.set_cons_zero, List.set_cons_succ, List.getElem_toArray, List.getElem_cons_zero, List.getElem_cons_succ]
      refine wpAnyH_take (i := 11) (v := ?_) rfl (by kernel_rfl) (by kernel_rfl) (by kernel_rfl) (fun _ _ _ h => h) (Or.inl ⟨by rfl, ?_⟩) (by assumption) ?_
      rotate_left 1
      · (intro w hSw; (try dsimp only at hSw); (try go_split_ands); go_simp; try with_reducible rfl)
      try simp only [Act.put, List.setIfInBounds_toArray, List.set_cons_zero, List.set_cons_succ, List.getElem_toArray, List.getElem_cons_zero, List.getElem_cons_succ]
      refine wpAnyH_take (i := 12) (v := ?_) rfl (by kernel_rfl) (by kernel_rfl) (by kernel_rfl) (fun _ _ _ h => h) (Or.inl ⟨by rfl, ?_⟩) (by assumption) ?_
      rotate_left 1
      · (intro w hSw; (try dsimp only at hSw); (try go_split_ands); go_simp; try with_reducible rfl)
      try simp only [Act.put, List.setIfInBounds_toArray, List.set_cons_zero, List.set_cons_succ, List.getElem_toArray, List.getElem_cons_zero, List.getElem_cons_succ]
      refine wpAnyH_take (i := 13) (v := ?_) rfl (by kernel_rfl) (by kernel_rfl) (by kernel_rfl) (fun _ _ _ h => h) (Or.inl ⟨by rfl, ?_⟩) (by assumption) ?_
      rotate_left 1
      · (intro w hSw; (try dsimp only at hSw); (try go_split_ands); go_simp; try with_reducible rfl)
      try simp only [Act.put, List.setIfInBounds_toArray, List.set_cons_zero, List.set_cons_succ, List.getElem_toArray, List.getElem_cons_zero, List.getElem_cons_succ]
      refine wpAnyH_take (i := 14) (v := ?_) rfl (by kernel_rfl) (by kernel_rfl) (by kernel_rfl) (fun _ _ _ h => h) (Or.inl ⟨by rfl, ?_⟩) (by assumption) ?_
      rotate_left 1
      · (intro w hSw; (try dsimp only at hSw); (try go_split_ands); go_simp; try with_reducible rfl)
      try simp only [Act.put, List.setIfInBounds_toArray, List.set_cons_zero, List.set_cons_succ, List.getElem_toArray, List.getElem_cons_zero, List.getElem_cons_succ]
      refine wpAnyH_ready (rs := [1, 6, 9]) (by kernel_rfl) (by simp) ?_
      refine AllReadyH.cons rfl (fun K hK => ?_) ?_
      · (go_simp)
        refine hK.out _ _ (by (try dsimp only); first | assumption | go_keep) (fun hHeld => ?_)
        clear hK K
        try simp only [Act.put, List.setIfInBounds_toArray, List.set_cons_zero, List.set_cons_succ, List.getElem_toArray, List.getElem_cons_zero, List.getElem_cons_succ]
        refine wpAnyH_mono (S := fun W => W.cell? ⟨b, off + k, none⟩ = some (.int .i64 g) ∧ W.cell? ⟨wr.heap.size, i, none⟩ = some (.string fa)) (fun W h => h.1) _ _ _ _ ?_
        replace hHeld := And.intro hHeld (hN0)
        refine wpAnyH_ready (rs := [6, 9]) (by kernel_rfl) (by simp) ?_
        refine AllReadyH.cons rfl (fun K hK => ?_) ?_
        · go_simp; go_at_call 12; refine (LA.out _).mono ?_; rintro e w3 ⟨rfl, rfl⟩
          refine hK.out _ _ (by (try dsimp only); first | assumption | go_keep) (fun hHeld => ?_)
          clear hK K
          try simp only [Act.put, List.setIfInBounds_toArray, List.set_cons_zero, List.set_cons_succ, List.getElem_toArray, List.getElem_cons_zero, List.getElem_cons_succ]
          refine wpAnyH_take (i := 7) (v := ?_) rfl (by kernel_rfl) (by kernel_rfl) (by kernel_rfl) (fun _ _ _ h => h) (Or.inl ⟨by rfl, ?_⟩) (by assumption) ?_
          rotate_left 1
          · (intro w hSw; (try dsimp only at hSw); (try go_split_ands); go_simp; try with_reducible rfl)
          try simp only [Act.put, List.setIfInBounds_toArray, List.set_cons_zero, List.set_cons_succ, List.getElem_toArray, List.getElem_cons_zero, List.getElem_cons_succ]
          refine wpAnyH_take (i := 8) (v := ?_) rfl (by kernel_rfl) (by kernel_rfl) (by kernel_rfl) (fun _ _ _ h => h) (Or.inl ⟨by rfl, ?_⟩) (by assumption) ?_
          rotate_left 1
          · (intro w hSw; (try dsimp only at hSw); (try go_split_ands); go_simp; try with_reducible rfl)
          try simp only [Act.put, List.setIfInBounds_toArray, List.set_cons_zero, List.set_cons_succ, List.getElem_toArray, List.getElem_cons_zero, List.getElem_cons_succ]
          refine wpAnyH_ready (rs := [9, 15]) (by kernel_rfl) (by simp) ?_
          refine AllReadyH.cons rfl (fun K hK => ?_) ?_
          · (go_simp)
            refine hK.out _ _ (by (try dsimp only); first | assumption | go_keep) (fun hHeld => ?_)
            clear hK K
            try simp only [Act.put, List.setIfInBounds_toArray, List.set_cons_zero, List.set_cons_succ, List.getElem_toArray, List.getElem_cons_zero, List.getElem_cons_succ]
            refine wpAnyH_mono (S := fun W => W.cell? ⟨b, off + k, none⟩ = some (.int .i64 g) ∧ W.cell? ⟨wr.heap.size, i, none⟩ = some (.string fa) ∧ W.cell? ⟨wr.heap.size + 1, j, none⟩ = some (.string fb)) (fun W h => ⟨h.1, h.2.1⟩) _ _ _ _ ?_
            replace hHeld := And.intro hHeld.1 (And.intro hHeld.2 (hV1 (.cells #[.string ⟨#[58, 109, 101, 116, 104, 111, 100]⟩, .string ⟨#[120, 45, 97]⟩, .string ⟨#[117, 115, 101, 114, 45, 97, 103, 101, 110, 116]⟩, .string ⟨#[115, 111, 109, 101, 45, 108, 111, 110, 103, 101, 114, 45, 110, 97, 109, 101]⟩] 9)))
            refine wpAnyH_ready (rs := [15]) (by kernel_rfl) (by simp) ?_
            refine AllReadyH.cons rfl (fun K hK => ?_) ?_
            · go_simp; go_at_call 12; refine (LB.out _).mono ?_; rintro e w3 ⟨rfl, rfl⟩
              refine hK.out _ _ (by (try dsimp only); first | assumption | go_keep) (fun hHeld => ?_)
              clear hK K
              try simp only [Act.put, List.setIfInBounds_toArray, List.set_cons_zero, List.set_cons_succ, List.getElem_toArray, List.getElem_cons_zero, List.getElem_cons_succ]
              refine wpAnyH_take (i := 16) (v := ?_) rfl (by kernel_rfl) (by kernel_rfl) (by kernel_rfl) (fun _ _ _ h => h) (Or.inl ⟨by rfl, ?_⟩) (by assumption) ?_
              rotate_left 1
              · (intro w hSw; (try dsimp only at hSw); (try go_split_ands); go_simp; try with_reducible rfl)
              try simp only [Act.put, List.setIfInBounds_toArray, List.set_cons_zero, List.set_cons_succ, List.getElem_toArray, List.getElem_cons_zero, List.getElem_cons_succ]
              refine wpAnyH_take (i := 17) (v := ?_) rfl (by kernel_rfl) (by kernel_rfl) (by kernel_rfl) (fun _ _ _ h => h) (Or.inl ⟨by rfl, ?_⟩) (by assumption) ?_
              rotate_left 1
              · (intro w hSw; (try dsimp only at hSw); (try go_split_ands); go_simp; try with_reducible rfl)
              try simp only [Act.put, List.setIfInBounds_toArray, List.set_cons_zero, List.set_cons_succ, List.getElem_toArray, List.getElem_cons_zero, List.getElem_cons_succ]
              refine wpAnyH_take (i := 18) (v := ?_) rfl (by kernel_rfl) (by kernel_rfl) (by kernel_rfl) (fun _ _ _ h => h) (Or.inl ⟨by rfl, ?_⟩) (by assumption) ?_
              rotate_left 1
              · (intro w hSw; (try dsimp only at hSw); (try go_split_ands); go_simp; try with_reducible rfl)
              try simp only [Act.put, List.setIfInBounds_toArray, List.set_cons_zero, List.set_cons_succ, List.getElem_toArray, List.getElem_cons_zero, List.getElem_cons_succ]
              refine wpAnyH_ready (rs := [19]) (by kernel_rfl) (by simp) ?_
              refine AllReadyH.cons rfl (fun K hK => ?_) ?_
              · (go_simp)
                refine hK.out _ _ (by (try dsimp only); first | assumption | go_keep) (fun hHeld => ?_)
                clear hK K
                try simp only [Act.put, List.setIfInBounds_toArray, List.set_cons_zero, List.set_cons_succ, List.getElem_toArray, List.getElem_cons_zero, List.getElem_cons_succ]
                refine wpAnyH_ready (rs := [20]) (by kernel_rfl) (by simp) ?_
                refine AllReadyH.cons rfl (fun K hK => ?_) ?_
                · refine step_appS rfl _ _ 22 rfl w.heap.size 24 _ 2 32 infoF Try.underlying22 rfl (by decide) (.slice A4 k c) k (fdv ((gs.take k).map cfd)) rfl (HO.out _ _ _) ⟨wr.heap.size + 1 + 1, 0, none⟩ 1 1 [.string fa, .string fb] rfl rfl (HRec.out _ _).cells (by intro u hu; simp at hu; rcases hu with rfl | rfl <;> rfl) (by unfold maxLen; omega) (by omega) (HB3.out _ _ _) ?_
                  intro A6 c6 w6 ho6 hg6 _
                  have H6 := Lib.hid (HF.out A6 c6 w6 _ _ _ ho6 hg6)
                  have HC6 := HFc.out w6 _ _ _ hg6
                  refine hK.out _ _ ⟨HC6 _ _ hHeld.1 (.inl rfl), HC6 _ _ hHeld.2.1 (.inr (Nat.le_refl _)), HC6 _ _ hHeld.2.2 (.inr (Nat.le_succ _))⟩ (fun hHeld2 => ?_)
                  clear hK K hHeld ho6 hg6 HC6
                  try simp only [Act.put, List.setIfInBounds_toArray, List.set_cons_zero, List.set_cons_succ, List.getElem_toArray, List.getElem_cons_zero, List.getElem_cons_succ]
                  refine wpAnyH_take (i := 21) (v := ?_) rfl (by kernel_rfl) (by kernel_rfl) (by kernel_rfl) (fun _ _ _ h => h) (Or.inl ⟨by rfl, ?_⟩) (by assumption) ?_
                  rotate_left 1
                  · (intro w hSw; (try dsimp only at hSw); (try go_split_ands); go_simp; try with_reducible rfl)
                  try simp only [Act.put, List.setIfInBounds_toArray, List.set_cons_zero, List.set_cons_succ, List.getElem_toArray, List.getElem_cons_zero, List.getElem_cons_succ]
                  refine wpAnyH_done (by kernel_rfl) ?_ _
                  clear hHeld2
                  go_wp2_with fail
                  go_roundw
                  case rel => exact ⟨k + 1, c6, A6, by omega, rfl, rfl, H6⟩
                  case measure => simp only [intOf]; omega
                exact AllReadyH.nil
              exact AllReadyH.nil
            exact AllReadyH.nil
          refine AllReadyH.cons rfl (fun K hK => ?_) ?_
          · go_simp; go_at_call 12; refine (LB.out _).mono ?_; rintro e w3 ⟨rfl, rfl⟩
            refine hK.out _ _ (by (try dsimp only); first | assumption | go_keep) (fun hHeld => ?_)
            clear hK K
            try simp only [Act.put, List.setIfInBounds_toArray, List.set_cons_zero, List.set_cons_succ, List.getElem_toArray, List.getElem_cons_zero, List.getElem_cons_succ]
            refine wpAnyH_ready (rs := [9]) (by kernel_rfl) (by simp) ?_
            refine AllReadyH.cons rfl (fun K hK => ?_) ?_
            · (go_simp)
              refine hK.out _ _ (by (try dsimp only); first | assumption | go_keep) (fun hHeld => ?_)
              clear hK K
              try simp only [Act.put, List.setIfInBounds_toArray, List.set_cons_zero, List.set_cons_succ, List.getElem_toArray, List.getElem_cons_zero, List.getElem_cons_succ]
              refine wpAnyH_mono (S := fun W => W.cell? ⟨b, off + k, none⟩ = some (.int .i64 g) ∧ W.cell? ⟨wr.heap.size, i, none⟩ = some (.string fa) ∧ W.cell? ⟨wr.heap.size + 1, j, none⟩ = some (.string fb)) (fun W h => ⟨h.1, h.2.1⟩) _ _ _ _ ?_
              replace hHeld := And.intro hHeld.1 (And.intro hHeld.2 (hV1 (.cells #[.string ⟨#[58, 109, 101, 116, 104, 111, 100]⟩, .string ⟨#[120, 45, 97]⟩, .string ⟨#[117, 115, 101, 114, 45, 97, 103, 101, 110, 116]⟩, .string ⟨#[115, 111, 109, 101, 45, 108, 111, 110, 103, 101, 114, 45, 110, 97, 109, 101]⟩] 9)))
              refine wpAnyH_take (i := 16) (v := ?_) rfl (by kernel_rfl) (by kernel_rfl) (by kernel_rfl) (fun _ _ _ h => h) (Or.inl ⟨by rfl, ?_⟩) (by assumption) ?_
              rotate_left 1
              · (intro w hSw; (try dsimp only at hSw); (try go_split_ands); go_simp; try with_reducible rfl)
              try simp only [Act.put, List.setIfInBounds_toArray, List.set_cons_zero, List.set_cons_succ, List.getElem_toArray, List.getElem_cons_zero, List.getElem_cons_succ]
              refine wpAnyH_take (i := 17) (v := ?_) rfl (by kernel_rfl) (by kernel_rfl) (by kernel_rfl) (fun _ _ _ h => h) (Or.inl ⟨by rfl, ?_⟩) (by assumption) ?_
              rotate_left 1
              · (intro w hSw; (try dsimp only at hSw); (try go_split_ands); go_simp; try with_reducible rfl)
              try simp only [Act.put, List.setIfInBounds_toArray, List.set_cons_zero, List.set_cons_succ, List.getElem_toArray, List.getElem_cons_zero, List.getElem_cons_succ]
              refine wpAnyH_take (i := 18) (v := ?_) rfl (by kernel_rfl) (by kernel_rfl) (by kernel_rfl) (fun _ _ _ h => h) (Or.inl ⟨by rfl, ?_⟩) (by assumption) ?_
              rotate_left 1
              · (intro w hSw; (try dsimp only at hSw); (try go_split_ands); go_simp; try with_reducible rfl)
              try simp only [Act.put, List.setIfInBounds_toArray, List.set_cons_zero, List.set_cons_succ, List.getElem_toArray, List.getElem_cons_zero, List.getElem_cons_succ]
              refine wpAnyH_ready (rs := [19]) (by kernel_rfl) (by simp) ?_
              refine AllReadyH.cons rfl (fun K hK => ?_) ?_
              · (go_simp)
                refine hK.out _ _ (by (try dsimp only); first | assumption | go_keep) (fun hHeld => ?_)
                clear hK K
                try simp only [Act.put, List.setIfInBounds_toArray, List.set_cons_zero, List.set_cons_succ, List.getElem_toArray, List.getElem_cons_zero, List.getElem_cons_succ]
                refine wpAnyH_ready (rs := [20]) (by kernel_rfl) (by simp) ?_
                refine AllReadyH.cons rfl (fun K hK => ?_) ?_
                · refine step_appS rfl _ _ 22 rfl w.heap.size 24 _ 2 32 infoF Try.underlying22 rfl (by decide) (.slice A4 k c) k (fdv ((gs.take k).map cfd)) rfl (HO.out _ _ _) ⟨wr.heap.size + 1 + 1, 0, none⟩ 1 1 [.string fa, .string fb] rfl rfl (HRec.out _ _).cells (by intro u hu; simp at hu; rcases hu with rfl | rfl <;> rfl) (by unfold maxLen; omega) (by omega) (HB3.out _ _ _) ?_
                  intro A6 c6 w6 ho6 hg6 _
                  have H6 := Lib.hid (HF.out A6 c6 w6 _ _ _ ho6 hg6)
                  have HC6 := HFc.out w6 _ _ _ hg6
                  refine hK.out _ _ ⟨HC6 _ _ hHeld.1 (.inl rfl), HC6 _ _ hHeld.2.1 (.inr (Nat.le_refl _)), HC6 _ _ hHeld.2.2 (.inr (Nat.le_succ _))⟩ (fun hHeld2 => ?_)
                  clear hK K hHeld ho6 hg6 HC6
                  try simp only [Act.put, List.setIfInBounds_toArray, List.set_cons_zero, List.set_cons_succ, List.getElem_toArray, List.getElem_cons_zero, List.getElem_cons_succ]
                  refine wpAnyH_take (i := 21) (v := ?_) rfl (by kernel_rfl) (by kernel_rfl) (by kernel_rfl) (fun _ _ _ h => h) (Or.inl ⟨by rfl, ?_⟩) (by assumption) ?_
                  rotate_left 1
                  · (intro w hSw; (try dsimp only at hSw); (try go_split_ands); go_simp; try with_reducible rfl)
                  try simp only [Act.put, List.setIfInBounds_toArray, List.set_cons_zero, List.set_cons_succ, List.getElem_toArray, List.getElem_cons_zero, List.getElem_cons_succ]
                  refine wpAnyH_done (by kernel_rfl) ?_ _
                  clear hHeld2
                  go_wp2_with fail
                  go_roundw
                  case rel => exact ⟨k + 1, c6, A6, by omega, rfl, rfl, H6⟩
                  case measure => simp only [intOf]; omega
                exact AllReadyH.nil
              exact AllReadyH.nil
            exact AllReadyH.nil
          exact AllReadyH.nil
        refine AllReadyH.cons rfl (fun K hK => ?_) ?_
        · (go_simp)
          refine hK.out _ _ (by (try dsimp only); first | assumption | go_keep) (fun hHeld => ?_)
          clear hK K
          try simp only [Act.put, List.setIfInBounds_toArray, List.set_cons_zero, List.set_cons_succ, List.getElem_toArray, List.getElem_cons_zero, List.getElem_cons_succ]
          refine wpAnyH_mono (S := fun W => W.cell? ⟨b, off + k, none⟩ = some (.int .i64 g) ∧ W.cell? ⟨wr.heap.size, i, none⟩ = some (.string fa) ∧ W.cell? ⟨wr.heap.size + 1, j, none⟩ = some (.string fb)) (fun W h => ⟨h.1, h.2.1⟩) _ _ _ _ ?_
          replace hHeld := And.intro hHeld.1 (And.intro hHeld.2 (hV1 (.cells #[.string ⟨#[58, 109, 101, 116, 104, 111, 100]⟩, .string ⟨#[120, 45, 97]⟩, .string ⟨#[117, 115, 101, 114, 45, 97, 103, 101, 110, 116]⟩, .string ⟨#[115, 111, 109, 101, 45, 108, 111, 110, 103, 101, 114, 45, 110, 97, 109, 101]⟩] 9)))
          refine wpAnyH_ready (rs := [6]) (by kernel_rfl) (by simp) ?_
          refine AllReadyH.cons rfl (fun K hK => ?_) ?_
          · go_simp; go_at_call 12; refine (LA.out _).mono ?_; rintro e w3 ⟨rfl, rfl⟩
            refine hK.out _ _ (by (try dsimp only); first | assumption | go_keep) (fun hHeld => ?_)
            clear hK K
            try simp only [Act.put, List.setIfInBounds_toArray, List.set_cons_zero, List.set_cons_succ, List.getElem_toArray, List.getElem_cons_zero, List.getElem_cons_succ]
            refine wpAnyH_take (i := 7) (v := ?_) rfl (by kernel_rfl) (by kernel_rfl) (by kernel_rfl) (fun _ _ _ h => h) (Or.inl ⟨by rfl, ?_⟩) (by assumption) ?_
            rotate_left 1
            · (intro w hSw; (try dsimp only at hSw); (try go_split_ands); go_simp; try with_reducible rfl)
            try simp only [Act.put, List.setIfInBounds_toArray, List.set_cons_zero, List.set_cons_succ, List.getElem_toArray, List.getElem_cons_zero, List.getElem_cons_succ]
            refine wpAnyH_take (i := 8) (v := ?_) rfl (by kernel_rfl) (by kernel_rfl) (by kernel_rfl) (fun _ _ _ h => h) (Or.inl ⟨by rfl, ?_⟩) (by assumption) ?_
            rotate_left 1
            · (intro w hSw; (try dsimp only at hSw); (try go_split_ands); go_simp; try with_reducible rfl)
            try simp only [Act.put, List.setIfInBounds_toArray, List.set_cons_zero, List.set_cons_succ, List.getElem_toArray, List.getElem_cons_zero, List.getElem_cons_succ]
            refine wpAnyH_ready (rs := [15]) (by kernel_rfl) (by simp) ?_
            refine AllReadyH.cons rfl (fun K hK => ?_) ?_
            · go_simp; go_at_call 12; refine (LB.out _).mono ?_; rintro e w3 ⟨rfl, rfl⟩
              refine hK.out _ _ (by (try dsimp only); first | assumption | go_keep) (fun hHeld => ?_)
              clear hK K
              try simp only [Act.put, List.setIfInBounds_toArray, List.set_cons_zero, List.set_cons_succ, List.getElem_toArray, List.getElem_cons_zero, List.getElem_cons_succ]
              refine wpAnyH_take (i := 16) (v := ?_) rfl (by kernel_rfl) (by kernel_rfl) (by kernel_rfl) (fun _ _ _ h => h) (Or.inl ⟨by rfl, ?_⟩) (by assumption) ?_
              rotate_left 1
              · (intro w hSw; (try dsimp only at hSw); (try go_split_ands); go_simp; try with_reducible rfl)
              try simp only [Act.put, List.setIfInBounds_toArray, List.set_cons_zero, List.set_cons_succ, List.getElem_toArray, List.getElem_cons_zero, List.getElem_cons_succ]
              refine wpAnyH_take (i := 17) (v := ?_) rfl (by kernel_rfl) (by kernel_rfl) (by kernel_rfl) (fun _ _ _ h => h) (Or.inl ⟨by rfl, ?_⟩) (by assumption) ?_
              rotate_left 1
              · (intro w hSw; (try dsimp only at hSw); (try go_split_ands); go_simp; try with_reducible rfl)
              try simp only [Act.put, List.setIfInBounds_toArray, List.set_cons_zero, List.set_cons_succ, List.getElem_toArray, List.getElem_cons_zero, List.getElem_cons_succ]
              refine wpAnyH_take (i := 18) (v := ?_) rfl (by kernel_rfl) (by kernel_rfl) (by kernel_rfl) (fun _ _ _ h => h) (Or.inl ⟨by rfl, ?_⟩) (by assumption) ?_
              rotate_left 1
              · (intro w hSw; (try dsimp only at hSw); (try go_split_ands); go_simp; try with_reducible rfl)
              try simp only [Act.put, List.setIfInBounds_toArray, List.set_cons_zero, List.set_cons_succ, List.getElem_toArray, List.getElem_cons_zero, List.getElem_cons_succ]
              refine wpAnyH_ready (rs := [19]) (by kernel_rfl) (by simp) ?_
              refine AllReadyH.cons rfl (fun K hK => ?_) ?_
              · (go_simp)
                refine hK.out _ _ (by (try dsimp only); first | assumption | go_keep) (fun hHeld => ?_)
                clear hK K
                try simp only [Act.put, List.setIfInBounds_toArray, List.set_cons_zero, List.set_cons_succ, List.getElem_toArray, List.getElem_cons_zero, List.getElem_cons_succ]
                refine wpAnyH_ready (rs := [20]) (by kernel_rfl) (by simp) ?_
                refine AllReadyH.cons rfl (fun K hK => ?_) ?_
                · refine step_appS rfl _ _ 22 rfl w.heap.size 24 _ 2 32 infoF Try.underlying22 rfl (by decide) (.slice A4 k c) k (fdv ((gs.take k).map cfd)) rfl (HO.out _ _ _) ⟨wr.heap.size + 1 + 1, 0, none⟩ 1 1 [.string fa, .string fb] rfl rfl (HRec.out _ _).cells (by intro u hu; simp at hu; rcases hu with rfl | rfl <;> rfl) (by unfold maxLen; omega) (by omega) (HB3.out _ _ _) ?_
                  intro A6 c6 w6 ho6 hg6 _
                  have H6 := Lib.hid (HF.out A6 c6 w6 _ _ _ ho6 hg6)
                  have HC6 := HFc.out w6 _ _ _ hg6
                  refine hK.out _ _ ⟨HC6 _ _ hHeld.1 (.inl rfl), HC6 _ _ hHeld.2.1 (.inr (Nat.le_refl _)), HC6 _ _ hHeld.2.2 (.inr (Nat.le_succ _))⟩ (fun hHeld2 => ?_)
                  clear hK K hHeld ho6 hg6 HC6
                  try simp only [Act.put, List.setIfInBounds_toArray, List.set_cons_zero, List.set_cons_succ, List.getElem_toArray, List.getElem_cons_zero, List.getElem_cons_succ]
                  refine wpAnyH_take (i := 21) (v := ?_) rfl (by kernel_rfl) (by kernel_rfl) (by kernel_rfl) (fun _ _ _ h => h) (Or.inl ⟨by rfl, ?_⟩) (by assumption) ?_
                  rotate_left 1
                  · (intro w hSw; (try dsimp only at hSw); (try go_split_ands); go_simp; try with_reducible rfl)
                  try simp only [Act.put, List.setIfInBounds_toArray, List.set_cons_zero, List.set_cons_succ, List.getElem_toArray, List.getElem_cons_zero, List.getElem_cons_succ]
                  refine wpAnyH_done (by kernel_rfl) ?_ _
                  clear hHeld2
                  go_wp2_with fail
                  go_roundw
                  case rel => exact ⟨k + 1, c6, A6, by omega, rfl, rfl, H6⟩
                  case measure => simp only [intOf]; omega
                exact AllReadyH.nil
              exact AllReadyH.nil
            exact AllReadyH.nil
          exact AllReadyH.nil
        exact AllReadyH.nil
      refine AllReadyH.cons rfl (fun K hK => ?_) ?_
      · go_simp; go_at_call 12; refine (LA.out _).mono ?_; rintro e w3 ⟨rfl, rfl⟩
        refine hK.out _ _ (by (try dsimp only); first | assumption | go_keep) (fun hHeld => ?_)
        clear hK K
        try simp only [Act.put, List.setIfInBounds_toArray, List.set_cons_zero, List.set_cons_succ, List.getElem_toArray, List.getElem_cons_zero, List.getElem_cons_succ]
        refine wpAnyH_ready (rs := [1, 9, 15]) (by kernel_rfl) (by simp) ?_
        refine AllReadyH.cons rfl (fun K hK => ?_) ?_
        · (go_simp)
          refine hK.out _ _ (by (try dsimp only); first | assumption | go_keep) (fun hHeld => ?_)
          clear hK K
          try simp only [Act.put, List.setIfInBounds_toArray, List.set_cons_zero, List.set_cons_succ, List.getElem_toArray, List.getElem_cons_zero, List.getElem_cons_succ]
          refine wpAnyH_mono (S := fun W => W.cell? ⟨b, off + k, none⟩ = some (.int .i64 g) ∧ W.cell? ⟨wr.heap.size, i, none⟩ = some (.string fa)) (fun W h => h.1) _ _ _ _ ?_
          replace hHeld := And.intro hHeld (hN0)
          refine wpAnyH_take (i := 7) (v := ?_) rfl (by kernel_rfl) (by kernel_rfl) (by kernel_rfl) (fun _ _ _ h => h) (Or.inl ⟨by rfl, ?_⟩) (by assumption) ?_
          rotate_left 1
          · (intro w hSw; (try dsimp only at hSw); (try go_split_ands); go_simp; try with_reducible rfl)
          try simp only [Act.put, List.setIfInBounds_toArray, List.set_cons_zero, List.set_cons_succ, List.getElem_toArray, List.getElem_cons_zero, List.getElem_cons_succ]
          refine wpAnyH_take (i := 8) (v := ?_) rfl (by kernel_rfl) (by kernel_rfl) (by kernel_rfl) (fun _ _ _ h => h) (Or.inl ⟨by rfl, ?_⟩) (by assumption) ?_
          rotate_left 1
          · (intro w hSw; (try dsimp only at hSw); (try go_split_ands); go_simp; try with_reducible rfl)
          try simp only [Act.put, List.setIfInBounds_toArray, List.set_cons_zero, List.set_cons_succ, List.getElem_toArray, List.getElem_cons_zero, List.getElem_cons_succ]
          refine wpAnyH_ready (rs := [9, 15]) (by kernel_rfl) (by simp) ?_
          refine AllReadyH.cons rfl (fun K hK => ?_) ?_
          · (go_simp)
            refine hK.out _ _ (by (try dsimp only); first | assumption | go_keep) (fun hHeld => ?_)
            clear hK K
            try simp only [Act.put, List.setIfInBounds_toArray, List.set_cons_zero, List.set_cons_succ, List.getElem_toArray, List.getElem_cons_zero, List.getElem_cons_succ]
            refine wpAnyH_mono (S := fun W => W.cell? ⟨b, off + k, none⟩ = some (.int .i64 g) ∧ W.cell? ⟨wr.heap.size, i, none⟩ = some (.string fa) ∧ W.cell? ⟨wr.heap.size + 1, j, none⟩ = some (.string fb)) (fun W h => ⟨h.1, h.2.1⟩) _ _ _ _ ?_
            replace hHeld := And.intro hHeld.1 (And.intro hHeld.2 (hV1 (.cells #[.string ⟨#[58, 109, 101, 116, 104, 111, 100]⟩, .string ⟨#[120, 45, 97]⟩, .string ⟨#[117, 115, 101, 114, 45, 97, 103, 101, 110, 116]⟩, .string ⟨#[115, 111, 109, 101, 45, 108, 111, 110, 103, 101, 114, 45, 110, 97, 109, 101]⟩] 9)))
            refine wpAnyH_ready (rs := [15]) (by kernel_rfl) (by simp) ?_
            refine AllReadyH.cons rfl (fun K hK => ?_) ?_
            · go_simp; go_at_call 12; refine (LB.out _).mono ?_; rintro e w3 ⟨rfl, rfl⟩
              refine hK.out _ _ (by (try dsimp only); first | assumption | go_keep) (fun hHeld => ?_)
              clear hK K
              try simp only [Act.put, List.setIfInBounds_toArray, List.set_cons_zero, List.set_cons_succ, List.getElem_toArray, List.getElem_cons_zero, List.getElem_cons_succ]
              refine wpAnyH_take (i := 16) (v := ?_) rfl (by kernel_rfl) (by kernel_rfl) (by kernel_rfl) (fun _ _ _ h => h) (Or.inl ⟨by rfl, ?_⟩) (by assumption) ?_
              rotate_left 1
              · (intro w hSw; (try dsimp only at hSw); (try go_split_ands); go_simp; try with_reducible rfl)
              try simp only [Act.put, List.setIfInBounds_toArray, List.set_cons_zero, List.set_cons_succ, List.getElem_toArray, List.getElem_cons_zero, List.getElem_cons_succ]
              refine wpAnyH_take (i := 17) (v := ?_) rfl (by kernel_rfl) (by kernel_rfl) (by kernel_rfl) (fun _ _ _ h => h) (Or.inl ⟨by rfl, ?_⟩) (by assumption) ?_
              rotate_left 1
              · (intro w hSw; (try dsimp only at hSw); (try go_split_ands); go_simp; try with_reducible rfl)
              try simp only [Act.put, List.setIfInBounds_toArray, List.set_cons_zero, List.set_cons_succ, List.getElem_toArray, List.getElem_cons_zero, List.getElem_cons_succ]
              refine wpAnyH_take (i := 18) (v := ?_) rfl (by kernel_rfl) (by kernel_rfl) (by kernel_rfl) (fun _ _ _ h => h) (Or.inl ⟨by rfl, ?_⟩) (by assumption) ?_
              rotate_left 1
              · (intro w hSw; (try dsimp only at hSw); (try go_split_ands); go_simp; try with_reducible rfl)
              try simp only [Act.put, List.setIfInBounds_toArray, List.set_cons_zero, List.set_cons_succ, List.getElem_toArray, List.getElem_cons_zero, List.getElem_cons_succ]
              refine wpAnyH_ready (rs := [19]) (by kernel_rfl) (by simp) ?_
              refine AllReadyH.cons rfl (fun K hK => ?_) ?_
              · (go_simp)
                refine hK.out _ _ (by (try dsimp only); first | assumption | go_keep) (fun hHeld => ?_)
                clear hK K
                try simp only [Act.put, List.setIfInBounds_toArray, List.set_cons_zero, List.set_cons_succ, List.getElem_toArray, List.getElem_cons_zero, List.getElem_cons_succ]
                refine wpAnyH_ready (rs := [20]) (by kernel_rfl) (by simp) ?_
                refine AllReadyH.cons rfl (fun K hK => ?_) ?_
                · refine step_appS rfl _ _ 22 rfl w.heap.size 24 _ 2 32 infoF Try.underlying22 rfl (by decide) (.slice A4 k c) k (fdv ((gs.take k).map cfd)) rfl (HO.out _ _ _) ⟨wr.heap.size + 1 + 1, 0, none⟩ 1 1 [.string fa, .string fb] rfl rfl (HRec.out _ _).cells (by intro u hu; simp at hu; rcases hu with rfl | rfl <;> rfl) (by unfold maxLen; omega) (by omega) (HB3.out _ _ _) ?_
                  intro A6 c6 w6 ho6 hg6 _
                  have H6 := Lib.hid (HF.out A6 c6 w6 _ _ _ ho6 hg6)
                  have HC6 := HFc.out w6 _ _ _ hg6
                  refine hK.out _ _ ⟨HC6 _ _ hHeld.1 (.inl rfl), HC6 _ _ hHeld.2.1 (.inr (Nat.le_refl _)), HC6 _ _ hHeld.2.2 (.inr (Nat.le_succ _))⟩ (fun hHeld2 => ?_)
                  clear hK K hHeld ho6 hg6 HC6
                  try simp only [Act.put, List.setIfInBounds_toArray, List.set_cons_zero, List.set_cons_succ, List.getElem_toArray, List.getElem_cons_zero, List.getElem_cons_succ]
                  refine wpAnyH_take (i := 21) (v := ?_) rfl (by kernel_rfl) (by kernel_rfl) (by kernel_rfl) (fun _ _ _ h => h) (Or.inl ⟨by rfl, ?_⟩) (by assumption) ?_
                  rotate_left 1
                  · (intro w hSw; (try dsimp only at hSw); (try go_split_ands); go_simp; try with_reducible rfl)
                  try simp only [Act.put, List.setIfInBounds_toArray, List.set_cons_zero, List.set_cons_succ, List.getElem_toArray, List.getElem_cons_zero, List.getElem_cons_succ]
                  refine wpAnyH_done (by kernel_rfl) ?_ _
                  clear hHeld2
                  go_wp2_with fail
                  go_roundw
                  case rel => exact ⟨k + 1, c6, A6, by omega, rfl, rfl, H6⟩
                  case measure => simp only [intOf]; omega
                exact AllReadyH.nil
              exact AllReadyH.nil
            exact AllReadyH.nil
          refine AllReadyH.cons rfl (fun K hK => ?_) ?_
          · go_simp; go_at_call 12; refine (LB.out _).mono ?_; rintro e w3 ⟨rfl, rfl⟩
            refine hK.out _ _ (by (try dsimp only); first | assumption | go_keep) (fun hHeld => ?_)
            clear hK K
            try simp only [Act.put, List.setIfInBounds_toArray, List.set_cons_zero, List.set_cons_succ, List.getElem_toArray, List.getElem_cons_zero, List.getElem_cons_succ]
            refine wpAnyH_ready (rs := [9]) (by kernel_rfl) (by simp) ?_
            refine AllReadyH.cons rfl (fun K hK => ?_) ?_
            · (go_simp)
              refine hK.out _ _ (by (try dsimp only); first | assumption | go_keep) (fun hHeld => ?_)
              clear hK K
              try simp only [Act.put, List.setIfInBounds_toArray, List.set_cons_zero, List.set_cons_succ, List.getElem_toArray, List.getElem_cons_zero, List.getElem_cons_succ]
              refine wpAnyH_mono (S := fun W => W.cell? ⟨b, off + k, none⟩ = some (.int .i64 g) ∧ W.cell? ⟨wr.heap.size, i, none⟩ = some (.string fa) ∧ W.cell? ⟨wr.heap.size + 1, j, none⟩ = some (.string fb)) (fun W h => ⟨h.1, h.2.1⟩) _ _ _ _ ?_
              replace hHeld := And.intro hHeld.1 (And.intro hHeld.2 (hV1 (.cells #[.string ⟨#[58, 109, 101, 116, 104, 111, 100]⟩, .string ⟨#[120, 45, 97]⟩, .string ⟨#[117, 115, 101, 114, 45, 97, 103, 101, 110, 116]⟩, .string ⟨#[115, 111, 109, 101, 45, 108, 111, 110, 103, 101, 114, 45, 110, 97, 109, 101]⟩] 9)))
              refine wpAnyH_take (i := 16) (v := ?_) rfl (by kernel_rfl) (by kernel_rfl) (by kernel_rfl) (fun _ _ _ h => h) (Or.inl ⟨by rfl, ?_⟩) (by assumption) ?_
              rotate_left 1
              · (intro w hSw; (try dsimp only at hSw); (try go_split_ands); go_simp; try with_reducible rfl)
              try simp only [Act.put, List.setIfInBounds_toArray, List.set_cons_zero, List.set_cons_succ, List.getElem_toArray, List.getElem_cons_zero, List.getElem_cons_succ]
              refine wpAnyH_take (i := 17) (v := ?_) rfl (by kernel_rfl) (by kernel_rfl) (by kernel_rfl) (fun _ _ _ h => h) (Or.inl ⟨by rfl, ?_⟩) (by assumption) ?_
              rotate_left 1
              · (intro w hSw; (try dsimp only at hSw); (try go_split_ands); go_simp; try with_reducible rfl)
              try simp only [Act.put, List.setIfInBounds_toArray, List.set_cons_zero, List.set_cons_succ, List.getElem_toArray, List.getElem_cons_zero, List.getElem_cons_succ]
              refine wpAnyH_take (i := 18) (v := ?_) rfl (by kernel_rfl) (by kernel_rfl) (by kernel_rfl) (fun _ _ _ h => h) (Or.inl ⟨by rfl, ?_⟩) (by assumption) ?_
              rotate_left 1
              · (intro w hSw; (try dsimp only at hSw); (try go_split_ands); go_simp; try with_reducible rfl)
              try simp only [Act.put, List.setIfInBounds_toArray, List.set_cons_zero, List.set_cons_succ, List.getElem_toArray, List.getElem_cons_zero, List.getElem_cons_succ]
              refine wpAnyH_ready (rs := [19]) (by kernel_rfl) (by simp) ?_
              refine AllReadyH.cons rfl (fun K hK => ?_) ?_
              · (go_simp)
                refine hK.out _ _ (by (try dsimp only); first | assumption | go_keep) (fun hHeld => ?_)
                clear hK K
                try simp only [Act.put, List.setIfInBounds_toArray, List.set_cons_zero, List.set_cons_succ, List.getElem_toArray, List.getElem_cons_zero, List.getElem_cons_succ]
                refine wpAnyH_ready (rs := [20]) (by kernel_rfl) (by simp) ?_
                refine AllReadyH.cons rfl (fun K hK => ?_) ?_
                · refine step_appS rfl _ _ 22 rfl w.heap.size 24 _ 2 32 infoF Try.underlying22 rfl (by decide) (.slice A4 k c) k (fdv ((gs.take k).map cfd)) rfl (HO.out _ _ _) ⟨wr.heap.size + 1 + 1, 0, none⟩ 1 1 [.string fa, .string fb] rfl rfl (HRec.out _ _).cells (by intro u hu; simp at hu; rcases hu with rfl | rfl <;> rfl) (by unfold maxLen; omega) (by omega) (HB3.out _ _ _) ?_
                  intro A6 c6 w6 ho6 hg6 _
                  have H6 := Lib.hid (HF.out A6 c6 w6 _ _ _ ho6 hg6)
                  have HC6 := HFc.out w6 _ _ _ hg6
                  refine hK.out _ _ ⟨HC6 _ _ hHeld.1 (.inl rfl), HC6 _ _ hHeld.2.1 (.inr (Nat.le_refl _)), HC6 _ _ hHeld.2.2 (.inr (Nat.le_succ _))⟩ (fun hHeld2 => ?_)
                  clear hK K hHeld ho6 hg6 HC6
                  try simp only [Act.put, List.setIfInBounds_toArray, List.set_cons_zero, List.set_cons_succ, List.getElem_toArray, List.getElem_cons_zero, List.getElem_cons_succ]
                  refine wpAnyH_take (i := 21) (v := ?_) rfl (by kernel_rfl) (by kernel_rfl) (by kernel_rfl) (fun _ _ _ h => h) (Or.inl ⟨by rfl, ?_⟩) (by assumption) ?_
                  rotate_left 1
                  · (intro w hSw; (try dsimp only at hSw); (try go_split_ands); go_simp; try with_reducible rfl)
                  try simp only [Act.put, List.setIfInBounds_toArray, List.set_cons_zero, List.set_cons_succ, List.getElem_toArray, List.getElem_cons_zero, List.getElem_cons_succ]
                  refine wpAnyH_done (by kernel_rfl) ?_ _
                  clear hHeld2
                  go_wp2_with fail
                  go_roundw
                  case rel => exact ⟨k + 1, c6, A6, by omega, rfl, rfl, H6⟩
                  case measure => simp only [intOf]; omega
                exact AllReadyH.nil
              exact AllReadyH.nil
            exact AllReadyH.nil
          exact AllReadyH.nil
        refine AllReadyH.cons rfl (fun K hK => ?_) ?_
        · (go_simp)
          refine hK.out _ _ (by (try dsimp only); first | assumption | go_keep) (fun hHeld => ?_)
          clear hK K
          try simp only [Act.put, List.setIfInBounds_toArray, List.set_cons_zero, List.set_cons_succ, List.getElem_toArray, List.getElem_cons_zero, List.getElem_cons_succ]
          refine wpAnyH_mono (S := fun W => W.cell? ⟨b, off + k, none⟩ = some (.int .i64 g) ∧ W.cell? ⟨wr.heap.size, j, none⟩ = some (.string fb)) (fun W h => h.1) _ _ _ _ ?_
          replace hHeld := And.intro hHeld (hV0)
          refine wpAnyH_ready (rs := [1, 15]) (by kernel_rfl) (by simp) ?_
          refine AllReadyH.cons rfl (fun K hK => ?_) ?_
          · (go_simp)
            refine hK.out _ _ (by (try dsimp only); first | assumption | go_keep) (fun hHeld => ?_)
            clear hK K
            try simp only [Act.put, List.setIfInBounds_toArray, List.set_cons_zero, List.set_cons_succ, List.getElem_toArray, List.getElem_cons_zero, List.getElem_cons_succ]
            refine wpAnyH_mono (S := fun W => W.cell? ⟨b, off + k, none⟩ = some (.int .i64 g) ∧ W.cell? ⟨wr.heap.size, j, none⟩ = some (.string fb) ∧ W.cell? ⟨wr.heap.size + 1, i, none⟩ = some (.string fa)) (fun W h => ⟨h.1, h.2.1⟩) _ _ _ _ ?_
            replace hHeld := And.intro hHeld.1 (And.intro hHeld.2 (hN1 (.cells #[.string ⟨#[71, 69, 84]⟩, .string ⟨#[]⟩, .string ⟨#[113]⟩, .string ⟨#[97, 32, 118, 97, 108, 117, 101, 32, 111, 102, 32, 115, 111, 109, 101, 32, 109, 111, 114, 101, 32, 98, 121, 116, 101, 115]⟩] 9)))
            refine wpAnyH_take (i := 7) (v := ?_) rfl (by kernel_rfl) (by kernel_rfl) (by kernel_rfl) (fun _ _ _ h => h) (Or.inl ⟨by rfl, ?_⟩) (by assumption) ?_
            rotate_left 1
            · (intro w hSw; (try dsimp only at hSw); (try go_split_ands); go_simp; try with_reducible rfl)
            try simp only [Act.put, List.setIfInBounds_toArray, List.set_cons_zero, List.set_cons_succ, List.getElem_toArray, List.getElem_cons_zero, List.getElem_cons_succ]
            refine wpAnyH_take (i := 8) (v := ?_) rfl (by kernel_rfl) (by kernel_rfl) (by kernel_rfl) (fun _ _ _ h => h) (Or.inl ⟨by rfl, ?_⟩) (by assumption) ?_
            rotate_left 1
            · (intro w hSw; (try dsimp only at hSw); (try go_split_ands); go_simp; try with_reducible rfl)
            try simp only [Act.put, List.setIfInBounds_toArray, List.set_cons_zero, List.set_cons_succ, List.getElem_toArray, List.getElem_cons_zero, List.getElem_cons_succ]
            refine wpAnyH_ready (rs := [15]) (by kernel_rfl) (by simp) ?_
            refine AllReadyH.cons rfl (fun K hK => ?_) ?_
            · go_simp; go_at_call 12; refine (LB.out _).mono ?_; rintro e w3 ⟨rfl, rfl⟩
              refine hK.out _ _ (by (try dsimp only); first | assumption | go_keep) (fun hHeld => ?_)
              clear hK K
              try simp only [Act.put, List.setIfInBounds_toArray, List.set_cons_zero, List.set_cons_succ, List.getElem_toArray, List.getElem_cons_zero, List.getElem_cons_succ]
              refine wpAnyH_take (i := 16) (v := ?_) rfl (by kernel_rfl) (by kernel_rfl) (by kernel_rfl) (fun _ _ _ h => h) (Or.inl ⟨by rfl, ?_⟩) (by assumption) ?_
              rotate_left 1
              · (intro w hSw; (try dsimp only at hSw); (try go_split_ands); go_simp; try with_reducible rfl)
              try simp only [Act.put, List.setIfInBounds_toArray, List.set_cons_zero, List.set_cons_succ, List.getElem_toArray, List.getElem_cons_zero, List.getElem_cons_succ]
              refine wpAnyH_take (i := 17) (v := ?_) rfl (by kernel_rfl) (by kernel_rfl) (by kernel_rfl) (fun _ _ _ h => h) (Or.inl ⟨by rfl, ?_⟩) (by assumption) ?_
              rotate_left 1
              · (intro w hSw; (try dsimp only at hSw); (try go_split_ands); go_simp; try with_reducible rfl)
              try simp only [Act.put, List.setIfInBounds_toArray, List.set_cons_zero, List.set_cons_succ, List.getElem_toArray, List.getElem_cons_zero, List.getElem_cons_succ]
              refine wpAnyH_take (i := 18) (v := ?_) rfl (by kernel_rfl) (by kernel_rfl) (by kernel_rfl) (fun _ _ _ h => h) (Or.inl ⟨by rfl, ?_⟩) (by assumption) ?_
              rotate_left 1
              · (intro w hSw; (try dsimp only at hSw); (try go_split_ands); go_simp; try with_reducible rfl)
              try simp only [Act.put, List.setIfInBounds_toArray, List.set_cons_zero, List.set_cons_succ, List.getElem_toArray, List.getElem_cons_zero, List.getElem_cons_succ]
              refine wpAnyH_ready (rs := [19]) (by kernel_rfl) (by simp) ?_
              refine AllReadyH.cons rfl (fun K hK => ?_) ?_
              · (go_simp)
                refine hK.out _ _ (by (try dsimp only); first | assumption | go_keep) (fun hHeld => ?_)
                clear hK K
                try simp only [Act.put, List.setIfInBounds_toArray, List.set_cons_zero, List.set_cons_succ, List.getElem_toArray, List.getElem_cons_zero, List.getElem_cons_succ]
                refine wpAnyH_ready (rs := [20]) (by kernel_rfl) (by simp) ?_
                refine AllReadyH.cons rfl (fun K hK => ?_) ?_
                · refine step_appS rfl _ _ 22 rfl w.heap.size 24 _ 2 32 infoF Try.underlying22 rfl (by decide) (.slice A4 k c) k (fdv ((gs.take k).map cfd)) rfl (HO.out _ _ _) ⟨wr.heap.size + 1 + 1, 0, none⟩ 1 1 [.string fa, .string fb] rfl rfl (HRec.out _ _).cells (by intro u hu; simp at hu; rcases hu with rfl | rfl <;> rfl) (by unfold maxLen; omega) (by omega) (HB3.out _ _ _) ?_
                  intro A6 c6 w6 ho6 hg6 _
                  have H6 := Lib.hid (HF.out A6 c6 w6 _ _ _ ho6 hg6)
                  have HC6 := HFc.out w6 _ _ _ hg6
                  refine hK.out _ _ ⟨HC6 _ _ hHeld.1 (.inl rfl), HC6 _ _ hHeld.2.1 (.inr (Nat.le_refl _)), HC6 _ _ hHeld.2.2 (.inr (Nat.le_succ _))⟩ (fun hHeld2 => ?_)
                  clear hK K hHeld ho6 hg6 HC6
                  try simp only [Act.put, List.setIfInBounds_toArray, List.set_cons_zero, List.set_cons_succ, List.getElem_toArray, List.getElem_cons_zero, List.getElem_cons_succ]
                  refine wpAnyH_take (i := 21) (v := ?_) rfl (by kernel_rfl) (by kernel_rfl) (by kernel_rfl) (fun _ _ _ h => h) (Or.inl ⟨by rfl, ?_⟩) (by assumption) ?_
                  rotate_left 1
                  · (intro w hSw; (try dsimp only at hSw); (try go_split_ands); go_simp; try with_reducible rfl)
                  try simp only [Act.put, List.setIfInBounds_toArray, List.set_cons_zero, List.set_cons_succ, List.getElem_toArray, List.getElem_cons_zero, List.getElem_cons_succ]
                  refine wpAnyH_done (by kernel_rfl) ?_ _
                  clear hHeld2
                  go_wp2_with fail
                  go_roundw
                  case rel => exact ⟨k + 1, c6, A6, by omega, rfl, rfl, H6⟩
                  case measure => simp only [intOf]; omega
                exact AllReadyH.nil
              exact AllReadyH.nil
            exact AllReadyH.nil
          refine AllReadyH.cons rfl (fun K hK => ?_) ?_
          · go_simp; go_at_call 12; refine (LB.out _).mono ?_; rintro e w3 ⟨rfl, rfl⟩
            refine hK.out _ _ (by (try dsimp only); first | assumption | go_keep) (fun hHeld => ?_)
            clear hK K
            try simp only [Act.put, List.setIfInBounds_toArray, List.set_cons_zero, List.set_cons_succ, List.getElem_toArray, List.getElem_cons_zero, List.getElem_cons_succ]
            refine wpAnyH_take (i := 16) (v := ?_) rfl (by kernel_rfl) (by kernel_rfl) (by kernel_rfl) (fun _ _ _ h => h) (Or.inl ⟨by rfl, ?_⟩) (by assumption) ?_
            rotate_left 1
            · (intro w hSw; (try dsimp only at hSw); (try go_split_ands); go_simp; try with_reducible rfl)
            try simp only [Act.put, List.setIfInBounds_toArray, List.set_cons_zero, List.set_cons_succ, List.getElem_toArray, List.getElem_cons_zero, List.getElem_cons_succ]
            refine wpAnyH_take (i := 17) (v := ?_) rfl (by kernel_rfl) (by kernel_rfl) (by kernel_rfl) (fun _ _ _ h => h) (Or.inl ⟨by rfl, ?_⟩) (by assumption) ?_
            rotate_left 1
            · (intro w hSw; (try dsimp only at hSw); (try go_split_ands); go_simp; try with_reducible rfl)
            try simp only [Act.put, List.setIfInBounds_toArray, List.set_cons_zero, List.set_cons_succ, List.getElem_toArray, List.getElem_cons_zero, List.getElem_cons_succ]
            refine wpAnyH_ready (rs := [1]) (by kernel_rfl) (by simp) ?_
            refine AllReadyH.cons rfl (fun K hK => ?_) ?_
            · (go_simp)
              refine hK.out _ _ (by (try dsimp only); first | assumption | go_keep) (fun hHeld => ?_)
              clear hK K
              try simp only [Act.put, List.setIfInBounds_toArray, List.set_cons_zero, List.set_cons_succ, List.getElem_toArray, List.getElem_cons_zero, List.getElem_cons_succ]
              refine wpAnyH_mono (S := fun W => W.cell? ⟨b, off + k, none⟩ = some (.int .i64 g) ∧ W.cell? ⟨wr.heap.size, j, none⟩ = some (.string fb) ∧ W.cell? ⟨wr.heap.size + 1, i, none⟩ = some (.string fa)) (fun W h => ⟨h.1, h.2.1⟩) _ _ _ _ ?_
              replace hHeld := And.intro hHeld.1 (And.intro hHeld.2 (hN1 (.cells #[.string ⟨#[71, 69, 84]⟩, .string ⟨#[]⟩, .string ⟨#[113]⟩, .string ⟨#[97, 32, 118, 97, 108, 117, 101, 32, 111, 102, 32, 115, 111, 109, 101, 32, 109, 111, 114, 101, 32, 98, 121, 116, 101, 115]⟩] 9)))
              refine wpAnyH_take (i := 7) (v := ?_) rfl (by kernel_rfl) (by kernel_rfl) (by kernel_rfl) (fun _ _ _ h => h) (Or.inl ⟨by rfl, ?_⟩) (by assumption) ?_
              rotate_left 1
              · (intro w hSw; (try dsimp only at hSw); (try go_split_ands); go_simp; try with_reducible rfl)
              try simp only [Act.put, List.setIfInBounds_toArray, List.set_cons_zero, List.set_cons_succ, List.getElem_toArray, List.getElem_cons_zero, List.getElem_cons_succ]
              refine wpAnyH_take (i := 8) (v := ?_) rfl (by kernel_rfl) (by kernel_rfl) (by kernel_rfl) (fun _ _ _ h => h) (Or.inl ⟨by rfl, ?_⟩) (by assumption) ?_
              rotate_left 1
              · (intro w hSw; (try dsimp only at hSw); (try go_split_ands); go_simp; try with_reducible rfl)
              try simp only [Act.put, List.setIfInBounds_toArray, List.set_cons_zero, List.set_cons_succ, List.getElem_toArray, List.getElem_cons_zero, List.getElem_cons_succ]
              refine wpAnyH_take (i := 18) (v := ?_) rfl (by kernel_rfl) (by kernel_rfl) (by kernel_rfl) (fun _ _ _ h => h) (Or.inl ⟨by rfl, ?_⟩) (by assumption) ?_
              rotate_left 1
              · (intro w hSw; (try dsimp only at hSw); (try go_split_ands); go_simp; try with_reducible rfl)
              try simp only [Act.put, List.setIfInBounds_toArray, List.set_cons_zero, List.set_cons_succ, List.getElem_toArray, List.getElem_cons_zero, List.getElem_cons_succ]
              refine wpAnyH_ready (rs := [19]) (by kernel_rfl) (by simp) ?_
              refine AllReadyH.cons rfl (fun K hK => ?_) ?_
              · (go_simp)
                refine hK.out _ _ (by (try dsimp only); first | assumption | go_keep) (fun hHeld => ?_)
                clear hK K
                try simp only [Act.put, List.setIfInBounds_toArray, List.set_cons_zero, List.set_cons_succ, List.getElem_toArray, List.getElem_cons_zero, List.getElem_cons_succ]
                refine wpAnyH_ready (rs := [20]) (by kernel_rfl) (by simp) ?_
                refine AllReadyH.cons rfl (fun K hK => ?_) ?_
                · refine step_appS rfl _ _ 22 rfl w.heap.size 24 _ 2 32 infoF Try.underlying22 rfl (by decide) (.slice A4 k c) k (fdv ((gs.take k).map cfd)) rfl (HO.out _ _ _) ⟨wr.heap.size + 1 + 1, 0, none⟩ 1 1 [.string fa, .string fb] rfl rfl (HRec.out _ _).cells (by intro u hu; simp at hu; rcases hu with rfl | rfl <;> rfl) (by unfold maxLen; omega) (by omega) (HB3.out _ _ _) ?_
                  intro A6 c6 w6 ho6 hg6 _
                  have H6 := Lib.hid (HF.out A6 c6 w6 _ _ _ ho6 hg6)
                  have HC6 := HFc.out w6 _ _ _ hg6
                  refine hK.out _ _ ⟨HC6 _ _ hHeld.1 (.inl rfl), HC6 _ _ hHeld.2.1 (.inr (Nat.le_refl _)), HC6 _ _ hHeld.2.2 (.inr (Nat.le_succ _))⟩ (fun hHeld2 => ?_)
                  clear hK K hHeld ho6 hg6 HC6
                  try simp only [Act.put, List.setIfInBounds_toArray, List.set_cons_zero, List.set_cons_succ, List.getElem_toArray, List.getElem_cons_zero, List.getElem_cons_succ]
                  refine wpAnyH_take (i := 21) (v := ?_) rfl (by kernel_rfl) (by kernel_rfl) (by kernel_rfl) (fun _ _ _ h => h) (Or.inl ⟨by rfl, ?_⟩) (by assumption) ?_
                  rotate_left 1
                  · (intro w hSw; (try dsimp only at hSw); (try go_split_ands); go_simp; try with_reducible rfl)
                  try simp only [Act.put, List.setIfInBounds_toArray, List.set_cons_zero, List.set_cons_succ, List.getElem_toArray, List.getElem_cons_zero, List.getElem_cons_succ]
                  refine wpAnyH_done (by kernel_rfl) ?_ _
                  clear hHeld2
                  go_wp2_with fail
                  go_roundw
                  case rel => exact ⟨k + 1, c6, A6, by omega, rfl, rfl, H6⟩
                  case measure => simp only [intOf]; omega
                exact AllReadyH.nil
              exact AllReadyH.nil
            exact AllReadyH.nil
          exact AllReadyH.nil
        refine AllReadyH.cons rfl (fun K hK => ?_) ?_
        · go_simp; go_at_call 12; refine (LB.out _).mono ?_; rintro e w3 ⟨rfl, rfl⟩
          refine hK.out _ _ (by (try dsimp only); first | assumption | go_keep) (fun hHeld => ?_)
          clear hK K
          try simp only [Act.put, List.setIfInBounds_toArray, List.set_cons_zero, List.set_cons_succ, List.getElem_toArray, List.getElem_cons_zero, List.getElem_cons_succ]
          refine wpAnyH_ready (rs := [1, 9]) (by kernel_rfl) (by simp) ?_
          refine AllReadyH.cons rfl (fun K hK => ?_) ?_
          · (go_simp)
            refine hK.out _ _ (by (try dsimp only); first | assumption | go_keep) (fun hHeld => ?_)
            clear hK K
            try simp only [Act.put, List.setIfInBounds_toArray, List.set_cons_zero, List.set_cons_succ, List.getElem_toArray, List.getElem_cons_zero, List.getElem_cons_succ]
            refine wpAnyH_mono (S := fun W => W.cell? ⟨b, off + k, none⟩ = some (.int .i64 g) ∧ W.cell? ⟨wr.heap.size, i, none⟩ = some (.string fa)) (fun W h => h.1) _ _ _ _ ?_
            replace hHeld := And.intro hHeld (hN0)
            refine wpAnyH_take (i := 7) (v := ?_) rfl (by kernel_rfl) (by kernel_rfl) (by kernel_rfl) (fun _ _ _ h => h) (Or.inl ⟨by rfl, ?_⟩) (by assumption) ?_
            rotate_left 1
            · (intro w hSw; (try dsimp only at hSw); (try go_split_ands); go_simp; try with_reducible rfl)
            try simp only [Act.put, List.setIfInBounds_toArray, List.set_cons_zero, List.set_cons_succ, List.getElem_toArray, List.getElem_cons_zero, List.getElem_cons_succ]
            refine wpAnyH_take (i := 8) (v := ?_) rfl (by kernel_rfl) (by kernel_rfl) (by kernel_rfl) (fun _ _ _ h => h) (Or.inl ⟨by rfl, ?_⟩) (by assumption) ?_
            rotate_left 1
            · (intro w hSw; (try dsimp only at hSw); (try go_split_ands); go_simp; try with_reducible rfl)
            try simp only [Act.put, List.setIfInBounds_toArray, List.set_cons_zero, List.set_cons_succ, List.getElem_toArray, List.getElem_cons_zero, List.getElem_cons_succ]
            refine wpAnyH_ready (rs := [9]) (by kernel_rfl) (by simp) ?_
            refine AllReadyH.cons rfl (fun K hK => ?_) ?_
            · (go_simp)
              refine hK.out _ _ (by (try dsimp only); first | assumption | go_keep) (fun hHeld => ?_)
              clear hK K
              try simp only [Act.put, List.setIfInBounds_toArray, List.set_cons_zero, List.set_cons_succ, List.getElem_toArray, List.getElem_cons_zero, List.getElem_cons_succ]
              refine wpAnyH_mono (S := fun W => W.cell? ⟨b, off + k, none⟩ = some (.int .i64 g) ∧ W.cell? ⟨wr.heap.size, i, none⟩ = some (.string fa) ∧ W.cell? ⟨wr.heap.size + 1, j, none⟩ = some (.string fb)) (fun W h => ⟨h.1, h.2.1⟩) _ _ _ _ ?_
              replace hHeld := And.intro hHeld.1 (And.intro hHeld.2 (hV1 (.cells #[.string ⟨#[58, 109, 101, 116, 104, 111, 100]⟩, .string ⟨#[120, 45, 97]⟩, .string ⟨#[117, 115, 101, 114, 45, 97, 103, 101, 110, 116]⟩, .string ⟨#[115, 111, 109, 101, 45, 108, 111, 110, 103, 101, 114, 45, 110, 97, 109, 101]⟩] 9)))
              refine wpAnyH_take (i := 16) (v := ?_) rfl (by kernel_rfl) (by kernel_rfl) (by kernel_rfl) (fun _ _ _ h => h) (Or.inl ⟨by rfl, ?_⟩) (by assumption) ?_
              rotate_left 1
              · (intro w hSw; (try dsimp only at hSw); (try go_split_ands); go_simp; try with_reducible rfl)
              try simp only [Act.put, List.setIfInBounds_toArray, List.set_cons_zero, List.set_cons_succ, List.getElem_toArray, List.getElem_cons_zero, List.getElem_cons_succ]
              refine wpAnyH_take (i := 17) (v := ?_) rfl (by kernel_rfl) (by kernel_rfl) (by kernel_rfl) (fun _ _ _ h => h) (Or.inl ⟨by rfl, ?_⟩) (by assumption) ?_
              rotate_left 1
              · (intro w hSw; (try dsimp only at hSw); (try go_split_ands); go_simp; try with_reducible rfl)
              try simp only [Act.put, List.setIfInBounds_toArray, List.set_cons_zero, List.set_cons_succ, List.getElem_toArray, List.getElem_cons_zero, List.getElem_cons_succ]
              refine wpAnyH_take (i := 18) (v := ?_) rfl (by kernel_rfl) (by kernel_rfl) (by kernel_rfl) (fun _ _ _ h => h) (Or.inl ⟨by rfl, ?_⟩) (by assumption) ?_
              rotate_left 1
              · (intro w hSw; (try dsimp only at hSw); (try go_split_ands); go_simp; try with_reducible rfl)
              try simp only [Act.put, List.setIfInBounds_toArray, List.set_cons_zero, List.set_cons_succ, List.getElem_toArray, List.getElem_cons_zero, List.getElem_cons_succ]
              refine wpAnyH_ready (rs := [19]) (by kernel_rfl) (by simp) ?_
              refine AllReadyH.cons rfl (fun K hK => ?_) ?_
              · (go_simp)
                refine hK.out _ _ (by (try dsimp only); first | assumption | go_keep) (fun hHeld => ?_)
                clear hK K
                try simp only [Act.put, List.setIfInBounds_toArray, List.set_cons_zero, List.set_cons_succ, List.getElem_toArray, List.getElem_cons_zero, List.getElem_cons_succ]
                refine wpAnyH_ready (rs := [20]) (by kernel_rfl) (by simp) ?_
                refine AllReadyH.cons rfl (fun K hK => ?_) ?_
                · refine step_appS rfl _ _ 22 rfl w.heap.size 24 _ 2 32 infoF Try.underlying22 rfl (by decide) (.slice A4 k c) k (fdv ((gs.take k).map cfd)) rfl (HO.out _ _ _) ⟨wr.heap.size + 1 + 1, 0, none⟩ 1 1 [.string fa, .string fb] rfl rfl (HRec.out _ _).cells (by intro u hu; simp at hu; rcases hu with rfl | rfl <;> rfl) (by unfold maxLen; omega) (by omega) (HB3.out _ _ _) ?_
                  intro A6 c6 w6 ho6 hg6 _
                  have H6 := Lib.hid (HF.out A6 c6 w6 _ _ _ ho6 hg6)
                  have HC6 := HFc.out w6 _ _ _ hg6
                  refine hK.out _ _ ⟨HC6 _ _ hHeld.1 (.inl rfl), HC6 _ _ hHeld.2.1 (.inr (Nat.le_refl _)), HC6 _ _ hHeld.2.2 (.inr (Nat.le_succ _))⟩ (fun hHeld2 => ?_)
                  clear hK K hHeld ho6 hg6 HC6
                  try simp only [Act.put, List.setIfInBounds_toArray, List.set_cons_zero, List.set_cons_succ, List.getElem_toArray, List.getElem_cons_zero, List.getElem_cons_succ]
                  refine wpAnyH_take (i := 21) (v := ?_) rfl (by kernel_rfl) (by kernel_rfl) (by kernel_rfl) (fun _ _ _ h => h) (Or.inl ⟨by rfl, ?_⟩) (by assumption) ?_
                  rotate_left 1
                  · (intro w hSw; (try dsimp only at hSw); (try go_split_ands); go_simp; try with_reducible rfl)
                  try simp only [Act.put, List.setIfInBounds_toArray, List.set_cons_zero, List.set_cons_succ, List.getElem_toArray, List.getElem_cons_zero, List.getElem_cons_succ]
                  refine wpAnyH_done (by kernel_rfl) ?_ _
                  clear hHeld2
                  go_wp2_with fail
                  go_roundw
                  case rel => exact ⟨k + 1, c6, A6, by omega, rfl, rfl, H6⟩
                  case measure => simp only [intOf]; omega
                exact AllReadyH.nil
              exact AllReadyH.nil
            exact AllReadyH.nil
          refine AllReadyH.cons rfl (fun K hK => ?_) ?_
          · (go_simp)
            refine hK.out _ _ (by (try dsimp only); first | assumption | go_keep) (fun hHeld => ?_)
            clear hK K
            try simp only [Act.put, List.setIfInBounds_toArray, List.set_cons_zero, List.set_cons_succ, List.getElem_toArray, List.getElem_cons_zero, List.getElem_cons_succ]
            refine wpAnyH_mono (S := fun W => W.cell? ⟨b, off + k, none⟩ = some (.int .i64 g) ∧ W.cell? ⟨wr.heap.size, j, none⟩ = some (.string fb)) (fun W h => h.1) _ _ _ _ ?_
            replace hHeld := And.intro hHeld (hV0)
            refine wpAnyH_take (i := 16) (v := ?_) rfl (by kernel_rfl) (by kernel_rfl) (by kernel_rfl) (fun _ _ _ h => h) (Or.inl ⟨by rfl, ?_⟩) (by assumption) ?_
            rotate_left 1
            · (intro w hSw; (try dsimp only at hSw); (try go_split_ands); go_simp; try with_reducible rfl)
            try simp only [Act.put, List.setIfInBounds_toArray, List.set_cons_zero, List.set_cons_succ, List.getElem_toArray, List.getElem_cons_zero, List.getElem_cons_succ]
            refine wpAnyH_take (i := 17) (v := ?_) rfl (by kernel_rfl) (by kernel_rfl) (by kernel_rfl) (fun _ _ _ h => h) (Or.inl ⟨by rfl, ?_⟩) (by assumption) ?_
            rotate_left 1
            · (intro w hSw; (try dsimp only at hSw); (try go_split_ands); go_simp; try with_reducible rfl)
            try simp only [Act.put, List.setIfInBounds_toArray, List.set_cons_zero, List.set_cons_succ, List.getElem_toArray, List.getElem_cons_zero, List.getElem_cons_succ]
            refine wpAnyH_ready (rs := [1]) (by kernel_rfl) (by simp) ?_
            refine AllReadyH.cons rfl (fun K hK => ?_) ?_
            · (go_simp)
              refine hK.out _ _ (by (try dsimp only); first | assumption | go_keep) (fun hHeld => ?_)
              clear hK K
              try simp only [Act.put, List.setIfInBounds_toArray, List.set_cons_zero, List.set_cons_succ, List.getElem_toArray, List.getElem_cons_zero, List.getElem_cons_succ]
              refine wpAnyH_mono (S := fun W => W.cell? ⟨b, off + k, none⟩ = some (.int .i64 g) ∧ W.cell? ⟨wr.heap.size, j, none⟩ = some (.string fb) ∧ W.cell? ⟨wr.heap.size + 1, i, none⟩ = some (.string fa)) (fun W h => ⟨h.1, h.2.1⟩) _ _ _ _ ?_
              replace hHeld := And.intro hHeld.1 (And.intro hHeld.2 (hN1 (.cells #[.string ⟨#[71, 69, 84]⟩, .string ⟨#[]⟩, .string ⟨#[113]⟩, .string ⟨#[97, 32, 118, 97, 108, 117, 101, 32, 111, 102, 32, 115, 111, 109, 101, 32, 109, 111, 114, 101, 32, 98, 121, 116, 101, 115]⟩] 9)))
              refine wpAnyH_take (i := 7) (v := ?_) rfl (by kernel_rfl) (by kernel_rfl) (by kernel_rfl) (fun _ _ _ h => h) (Or.inl ⟨by rfl, ?_⟩) (by assumption) ?_
              rotate_left 1
              · (intro w hSw; (try dsimp only at hSw); (try go_split_ands); go_simp; try with_reducible rfl)
              try simp only [Act.put, List.setIfInBounds_toArray, List.set_cons_zero, List.set_cons_succ, List.getElem_toArray, List.getElem_cons_zero, List.getElem_cons_succ]
              refine wpAnyH_take (i := 8) (v := ?_) rfl (by kernel_rfl) (by kernel_rfl) (by kernel_rfl) (fun _ _ _ h => h) (Or.inl ⟨by rfl, ?_⟩) (by assumption) ?_
              rotate_left 1
              · (intro w hSw; (try dsimp only at hSw); (try go_split_ands); go_simp; try with_reducible rfl)
              try simp only [Act.put, List.setIfInBounds_toArray, List.set_cons_zero, List.set_cons_succ, List.getElem_toArray, List.getElem_cons_zero, List.getElem_cons_succ]
              refine wpAnyH_take (i := 18) (v := ?_) rfl (by kernel_rfl) (by kernel_rfl) (by kernel_rfl) (fun _ _ _ h => h) (Or.inl ⟨by rfl, ?_⟩) (by assumption) ?_
              rotate_left 1
              · (intro w hSw; (try dsimp only at hSw); (try go_split_ands); go_simp; try with_reducible rfl)
              try simp only [Act.put, List.setIfInBounds_toArray, List.set_cons_zero, List.set_cons_succ, List.getElem_toArray, List.getElem_cons_zero, List.getElem_cons_succ]
              refine wpAnyH_ready (rs := [19]) (by kernel_rfl) (by simp) ?_
              refine AllReadyH.cons rfl (fun K hK => ?_) ?_
              · (go_simp)
                refine hK.out _ _ (by (try dsimp only); first | assumption | go_keep) (fun hHeld => ?_)
                clear hK K
                try simp only [Act.put, List.setIfInBounds_toArray, List.set_cons_zero, List.set_cons_succ, List.getElem_toArray, List.getElem_cons_zero, List.getElem_cons_succ]
                refine wpAnyH_ready (rs := [20]) (by kernel_rfl) (by simp) ?_
                refine AllReadyH.cons rfl (fun K hK => ?_) ?_
                · refine step_appS rfl _ _ 22 rfl w.heap.size 24 _ 2 32 infoF Try.underlying22 rfl (by decide) (.slice A4 k c) k (fdv ((gs.take k).map cfd)) rfl (HO.out _ _ _) ⟨wr.heap.size + 1 + 1, 0, none⟩ 1 1 [.string fa, .string fb] rfl rfl (HRec.out _ _).cells (by intro u hu; simp at hu; rcases hu with rfl | rfl <;> rfl) (by unfold maxLen; omega) (by omega) (HB3.out _ _ _) ?_
                  intro A6 c6 w6 ho6 hg6 _
                  have H6 := Lib.hid (HF.out A6 c6 w6 _ _ _ ho6 hg6)
                  have HC6 := HFc.out w6 _ _ _ hg6
                  refine hK.out _ _ ⟨HC6 _ _ hHeld.1 (.inl rfl), HC6 _ _ hHeld.2.1 (.inr (Nat.le_refl _)), HC6 _ _ hHeld.2.2 (.inr (Nat.le_succ _))⟩ (fun hHeld2 => ?_)
                  clear hK K hHeld ho6 hg6 HC6
                  try simp only [Act.put, List.setIfInBounds_toArray, List.set_cons_zero, List.set_cons_succ, List.getElem_toArray, List.getElem_cons_zero, List.getElem_cons_succ]
                  refine wpAnyH_take (i := 21) (v := ?_) rfl (by kernel_rfl) (by kernel_rfl) (by kernel_rfl) (fun _ _ _ h => h) (Or.inl ⟨by rfl, ?_⟩) (by assumption) ?_
                  rotate_left 1
                  · (intro w hSw; (try dsimp only at hSw); (try go_split_ands); go_simp; try with_reducible rfl)
                  try simp only [Act.put, List.setIfInBounds_toArray, List.set_cons_zero, List.set_cons_succ, List.getElem_toArray, List.getElem_cons_zero, List.getElem_cons_succ]
                  refine wpAnyH_done (by kernel_rfl) ?_ _
                  clear hHeld2
                  go_wp2_with fail
                  go_roundw
                  case rel => exact ⟨k + 1, c6, A6, by omega, rfl, rfl, H6⟩
                  case measure => simp only [intOf]; omega
                exact AllReadyH.nil
              exact AllReadyH.nil
            exact AllReadyH.nil
          exact AllReadyH.nil
        exact AllReadyH.nil
      refine AllReadyH.cons rfl (fun K hK => ?_) ?_
      · (go_simp)
        refine hK.out _ _ (by (try dsimp only); first | assumption | go_keep) (fun hHeld => ?_)
        clear hK K
        try simp only [Act.put, List.setIfInBounds_toArray, List.set_cons_zero, List.set_cons_succ, List.getElem_toArray, List.getElem_cons_zero, List.getElem_cons_succ]
        refine wpAnyH_mono (S := fun W => W.cell? ⟨b, off + k, none⟩ = some (.int .i64 g) ∧ W.cell? ⟨wr.heap.size, j, none⟩ = some (.string fb)) (fun W h => h.1) _ _ _ _ ?_
        replace hHeld := And.intro hHeld (hV0)
        refine wpAnyH_ready (rs := [1, 6]) (by kernel_rfl) (by simp) ?_
        refine AllReadyH.cons rfl (fun K hK => ?_) ?_
        · (go_simp)
          refine hK.out _ _ (by (try dsimp only); first | assumption | go_keep) (fun hHeld => ?_)
          clear hK K
          try simp only [Act.put, List.setIfInBounds_toArray, List.set_cons_zero, List.set_cons_succ, List.getElem_toArray, List.getElem_cons_zero, List.getElem_cons_succ]
          refine wpAnyH_mono (S := fun W => W.cell? ⟨b, off + k, none⟩ = some (.int .i64 g) ∧ W.cell? ⟨wr.heap.size, j, none⟩ = some (.string fb) ∧ W.cell? ⟨wr.heap.size + 1, i, none⟩ = some (.string fa)) (fun W h => ⟨h.1, h.2.1⟩) _ _ _ _ ?_
          replace hHeld := And.intro hHeld.1 (And.intro hHeld.2 (hN1 (.cells #[.string ⟨#[71, 69, 84]⟩, .string ⟨#[]⟩, .string ⟨#[113]⟩, .string ⟨#[97, 32, 118, 97, 108, 117, 101, 32, 111, 102, 32, 115, 111, 109, 101, 32, 109, 111, 114, 101, 32, 98, 121, 116, 101, 115]⟩] 9)))
          refine wpAnyH_ready (rs := [6]) (by kernel_rfl) (by simp) ?_
          refine AllReadyH.cons rfl (fun K hK => ?_) ?_
          · go_simp; go_at_call 12; refine (LA.out _).mono ?_; rintro e w3 ⟨rfl, rfl⟩
            refine hK.out _ _ (by (try dsimp only); first | assumption | go_keep) (fun hHeld => ?_)
            clear hK K
            try simp only [Act.put, List.setIfInBounds_toArray, List.set_cons_zero, List.set_cons_succ, List.getElem_toArray, List.getElem_cons_zero, List.getElem_cons_succ]
            refine wpAnyH_take (i := 7) (v := ?_) rfl (by kernel_rfl) (by kernel_rfl) (by kernel_rfl) (fun _ _ _ h => h) (Or.inl ⟨by rfl, ?_⟩) (by assumption) ?_
            rotate_left 1
            · (intro w hSw; (try dsimp only at hSw); (try go_split_ands); go_simp; try with_reducible rfl)
            try simp only [Act.put, List.setIfInBounds_toArray, List.set_cons_zero, List.set_cons_succ, List.getElem_toArray, List.getElem_cons_zero, List.getElem_cons_succ]
            refine wpAnyH_take (i := 8) (v := ?_) rfl (by kernel_rfl) (by kernel_rfl) (by kernel_rfl) (fun _ _ _ h => h) (Or.inl ⟨by rfl, ?_⟩) (by assumption) ?_
            rotate_left 1
            · (intro w hSw; (try dsimp only at hSw); (try go_split_ands); go_simp; try with_reducible rfl)
            try simp only [Act.put, List.setIfInBounds_toArray, List.set_cons_zero, List.set_cons_succ, List.getElem_toArray, List.getElem_cons_zero, List.getElem_cons_succ]
            refine wpAnyH_ready (rs := [15]) (by kernel_rfl) (by simp) ?_
            refine AllReadyH.cons rfl (fun K hK => ?_) ?_
            · go_simp; go_at_call 12; refine (LB.out _).mono ?_; rintro e w3 ⟨rfl, rfl⟩
              refine hK.out _ _ (by (try dsimp only); first | assumption | go_keep) (fun hHeld => ?_)
              clear hK K
              try simp only [Act.put, List.setIfInBounds_toArray, List.set_cons_zero, List.set_cons_succ, List.getElem_toArray, List.getElem_cons_zero, List.getElem_cons_succ]
              refine wpAnyH_take (i := 16) (v := ?_) rfl (by kernel_rfl) (by kernel_rfl) (by kernel_rfl) (fun _ _ _ h => h) (Or.inl ⟨by rfl, ?_⟩) (by assumption) ?_
              rotate_left 1
              · (intro w hSw; (try dsimp only at hSw); (try go_split_ands); go_simp; try with_reducible rfl)
              try simp only [Act.put, List.setIfInBounds_toArray, List.set_cons_zero, List.set_cons_succ, List.getElem_toArray, List.getElem_cons_zero, List.getElem_cons_succ]
              refine wpAnyH_take (i := 17) (v := ?_) rfl (by kernel_rfl) (by kernel_rfl) (by kernel_rfl) (fun _ _ _ h => h) (Or.inl ⟨by rfl, ?_⟩) (by assumption) ?_
              rotate_left 1
              · (intro w hSw; (try dsimp only at hSw); (try go_split_ands); go_simp; try with_reducible rfl)
              try simp only [Act.put, List.setIfInBounds_toArray, List.set_cons_zero, List.set_cons_succ, List.getElem_toArray, List.getElem_cons_zero, List.getElem_cons_succ]
              refine wpAnyH_take (i := 18) (v := ?_) rfl (by kernel_rfl) (by kernel_rfl) (by kernel_rfl) (fun _ _ _ h => h) (Or.inl ⟨by rfl, ?_⟩) (by assumption) ?_
              rotate_left 1
              · (intro w hSw; (try dsimp only at hSw); (try go_split_ands); go_simp; try with_reducible rfl)
              try simp only [Act.put, List.setIfInBounds_toArray, List.set_cons_zero, List.set_cons_succ, List.getElem_toArray, List.getElem_cons_zero, List.getElem_cons_succ]
              refine wpAnyH_ready (rs := [19]) (by kernel_rfl) (by simp) ?_
              refine AllReadyH.cons rfl (fun K hK => ?_) ?_
              · (go_simp)
                refine hK.out _ _ (by (try dsimp only); first | assumption | go_keep) (fun hHeld => ?_)
                clear hK K
                try simp only [Act.put, List.setIfInBounds_toArray, List.set_cons_zero, List.set_cons_succ, List.getElem_toArray, List.getElem_cons_zero, List.getElem_cons_succ]
                refine wpAnyH_ready (rs := [20]) (by kernel_rfl) (by simp) ?_
                refine AllReadyH.cons rfl (fun K hK => ?_) ?_
                · refine step_appS rfl _ _ 22 rfl w.heap.size 24 _ 2 32 infoF Try.underlying22 rfl (by decide) (.slice A4 k c) k (fdv ((gs.take k).map cfd)) rfl (HO.out _ _ _) ⟨wr.heap.size + 1 + 1, 0, none⟩ 1 1 [.string fa, .string fb] rfl rfl (HRec.out _ _).cells (by intro u hu; simp at hu; rcases hu with rfl | rfl <;> rfl) (by unfold maxLen; omega) (by omega) (HB3.out _ _ _) ?_
                  intro A6 c6 w6 ho6 hg6 _
                  have H6 := Lib.hid (HF.out A6 c6 w6 _ _ _ ho6 hg6)
                  have HC6 := HFc.out w6 _ _ _ hg6
                  refine hK.out _ _ ⟨HC6 _ _ hHeld.1 (.inl rfl), HC6 _ _ hHeld.2.1 (.inr (Nat.le_refl _)), HC6 _ _ hHeld.2.2 (.inr (Nat.le_succ _))⟩ (fun hHeld2 => ?_)
                  clear hK K hHeld ho6 hg6 HC6
                  try simp only [Act.put, List.setIfInBounds_toArray, List.set_cons_zero, List.set_cons_succ, List.getElem_toArray, List.getElem_cons_zero, List.getElem_cons_succ]
                  refine wpAnyH_take (i := 21) (v := ?_) rfl (by kernel_rfl) (by kernel_rfl) (by kernel_rfl) (fun _ _ _ h => h) (Or.inl ⟨by rfl, ?_⟩) (by assumption) ?_
                  rotate_left 1
                  · (intro w hSw; (try dsimp only at hSw); (try go_split_ands); go_simp; try with_reducible rfl)
                  try simp only [Act.put, List.setIfInBounds_toArray, List.set_cons_zero, List.set_cons_succ, List.getElem_toArray, List.getElem_cons_zero, List.getElem_cons_succ]
                  refine wpAnyH_done (by kernel_rfl) ?_ _
                  clear hHeld2
                  go_wp2_with fail
                  go_roundw
                  case rel => exact ⟨k + 1, c6, A6, by omega, rfl, rfl, H6⟩
                  case measure => simp only [intOf]; omega
                exact AllReadyH.nil
              exact AllReadyH.nil
            exact AllReadyH.nil
          exact AllReadyH.nil
        refine AllReadyH.cons rfl (fun K hK => ?_) ?_
        · go_simp; go_at_call 12; refine (LA.out _).mono ?_; rintro e w3 ⟨rfl, rfl⟩
          refine hK.out _ _ (by (try dsimp only); first | assumption | go_keep) (fun hHeld => ?_)
          clear hK K
          try simp only [Act.put, List.setIfInBounds_toArray, List.set_cons_zero, List.set_cons_succ, List.getElem_toArray, List.getElem_cons_zero, List.getElem_cons_succ]
          refine wpAnyH_ready (rs := [1, 15]) (by kernel_rfl) (by simp) ?_
          refine AllReadyH.cons rfl (fun K hK => ?_) ?_
          · (go_simp)
            refine hK.out _ _ (by (try dsimp only); first | assumption | go_keep) (fun hHeld => ?_)
            clear hK K
            try simp only [Act.put, List.setIfInBounds_toArray, List.set_cons_zero, List.set_cons_succ, List.getElem_toArray, List.getElem_cons_zero, List.getElem_cons_succ]
            refine wpAnyH_mono (S := fun W => W.cell? ⟨b, off + k, none⟩ = some (.int .i64 g) ∧ W.cell? ⟨wr.heap.size, j, none⟩ = some (.string fb) ∧ W.cell? ⟨wr.heap.size + 1, i, none⟩ = some (.string fa)) (fun W h => ⟨h.1, h.2.1⟩) _ _ _ _ ?_
            replace hHeld := And.intro hHeld.1 (And.intro hHeld.2 (hN1 (.cells #[.string ⟨#[71, 69, 84]⟩, .string ⟨#[]⟩, .string ⟨#[113]⟩, .string ⟨#[97, 32, 118, 97, 108, 117, 101, 32, 111, 102, 32, 115, 111, 109, 101, 32, 109, 111, 114, 101, 32, 98, 121, 116, 101, 115]⟩] 9)))
            refine wpAnyH_take (i := 7) (v := ?_) rfl (by kernel_rfl) (by kernel_rfl) (by kernel_rfl) (fun _ _ _ h => h) (Or.inl ⟨by rfl, ?_⟩) (by assumption) ?_
            rotate_left 1
            · (intro w hSw; (try dsimp only at hSw); (try go_split_ands); go_simp; try with_reducible rfl)
            try simp only [Act.put, List.setIfInBounds_toArray, List.set_cons_zero, List.set_cons_succ, List.getElem_toArray, List.getElem_cons_zero, List.getElem_cons_succ]
            refine wpAnyH_take (i := 8) (v := ?_) rfl (by kernel_rfl) (by kernel_rfl) (by kernel_rfl) (fun _ _ _ h => h) (Or.inl ⟨by rfl, ?_⟩) (by assumption) ?_
            rotate_left 1
            · (intro w hSw; (try dsimp only at hSw); (try go_split_ands); go_simp; try with_reducible rfl)
            try simp only [Act.put, List.setIfInBounds_toArray, List.set_cons_zero, List.set_cons_succ, List.getElem_toArray, List.getElem_cons_zero, List.getElem_cons_succ]
            refine wpAnyH_ready (rs := [15]) (by kernel_rfl) (by simp) ?_
            refine AllReadyH.cons rfl (fun K hK => ?_) ?_
            · go_simp; go_at_call 12; refine (LB.out _).mono ?_; rintro e w3 ⟨rfl, rfl⟩
              refine hK.out _ _ (by (try dsimp only); first | assumption | go_keep) (fun hHeld => ?_)
              clear hK K
              try simp only [Act.put, List.setIfInBounds_toArray, List.set_cons_zero, List.set_cons_succ, List.getElem_toArray, List.getElem_cons_zero, List.getElem_cons_succ]
              refine wpAnyH_take (i := 16) (v := ?_) rfl (by kernel_rfl) (by kernel_rfl) (by kernel_rfl) (fun _ _ _ h => h) (Or.inl ⟨by rfl, ?_⟩) (by assumption) ?_
              rotate_left 1
              · (intro w hSw; (try dsimp only at hSw); (try go_split_ands); go_simp; try with_reducible rfl)
              try simp only [Act.put, List.setIfInBounds_toArray, List.set_cons_zero, List.set_cons_succ, List.getElem_toArray, List.getElem_cons_zero, List.getElem_cons_succ]
              refine wpAnyH_take (i := 17) (v := ?_) rfl (by kernel_rfl) (by kernel_rfl) (by kernel_rfl) (fun _ _ _ h => h) (Or.inl ⟨by rfl, ?_⟩) (by assumption) ?_
              rotate_left 1
              · (intro w hSw; (try dsimp only at hSw); (try go_split_ands); go_simp; try with_reducible rfl)
              try simp only [Act.put, List.setIfInBounds_toArray, List.set_cons_zero, List.set_cons_succ, List.getElem_toArray, List.getElem_cons_zero, List.getElem_cons_succ]
              refine wpAnyH_take (i := 18) (v := ?_) rfl (by kernel_rfl) (by kernel_rfl) (by kernel_rfl) (fun _ _ _ h => h) (Or.inl ⟨by rfl, ?_⟩) (by assumption) ?_
              rotate_left 1
              · (intro w hSw; (try dsimp only at hSw); (try go_split_ands); go_simp; try with_reducible rfl)
              try simp only [Act.put, List.setIfInBounds_toArray, List.set_cons_zero, List.set_cons_succ, List.getElem_toArray, List.getElem_cons_zero, List.getElem_cons_succ]
              refine wpAnyH_ready (rs := [19]) (by kernel_rfl) (by simp) ?_
              refine AllReadyH.cons rfl (fun K hK => ?_) ?_
              · (go_simp)
                refine hK.out _ _ (by (try dsimp only); first | assumption | go_keep) (fun hHeld => ?_)
                clear hK K
                try simp only [Act.put, List.setIfInBounds_toArray, List.set_cons_zero, List.set_cons_succ, List.getElem_toArray, List.getElem_cons_zero, List.getElem_cons_succ]
                refine wpAnyH_ready (rs := [20]) (by kernel_rfl) (by simp) ?_
                refine AllReadyH.cons rfl (fun K hK => ?_) ?_
                · refine step_appS rfl _ _ 22 rfl w.heap.size 24 _ 2 32 infoF Try.underlying22 rfl (by decide) (.slice A4 k c) k (fdv ((gs.take k).map cfd)) rfl (HO.out _ _ _) ⟨wr.heap.size + 1 + 1, 0, none⟩ 1 1 [.string fa, .string fb] rfl rfl (HRec.out _ _).cells (by intro u hu; simp at hu; rcases hu with rfl | rfl <;> rfl) (by unfold maxLen; omega) (by omega) (HB3.out _ _ _) ?_
                  intro A6 c6 w6 ho6 hg6 _
                  have H6 := Lib.hid (HF.out A6 c6 w6 _ _ _ ho6 hg6)
                  have HC6 := HFc.out w6 _ _ _ hg6
                  refine hK.out _ _ ⟨HC6 _ _ hHeld.1 (.inl rfl), HC6 _ _ hHeld.2.1 (.inr (Nat.le_refl _)), HC6 _ _ hHeld.2.2 (.inr (Nat.le_succ _))⟩ (fun hHeld2 => ?_)
                  clear hK K hHeld ho6 hg6 HC6
                  try simp only [Act.put, List.setIfInBounds_toArray, List.set_cons_zero, List.set_cons_succ, List.getElem_toArray, List.getElem_cons_zero, List.getElem_cons_succ]
                  refine wpAnyH_take (i := 21) (v := ?_) rfl (by kernel_rfl) (by kernel_rfl) (by kernel_rfl) (fun _ _ _ h => h) (Or.inl ⟨by rfl, ?_⟩) (by assumption) ?_
                  rotate_left 1
                  · (intro w hSw; (try dsimp only at hSw); (try go_split_ands); go_simp; try with_reducible rfl)
                  try simp only [Act.put, List.setIfInBounds_toArray, List.set_cons_zero, List.set_cons_succ, List.getElem_toArray, List.getElem_cons_zero, List.getElem_cons_succ]
                  refine wpAnyH_done (by kernel_rfl) ?_ _
                  clear hHeld2
                  go_wp2_with fail
                  go_roundw
                  case rel => exact ⟨k + 1, c6, A6, by omega, rfl, rfl, H6⟩
                  case measure => simp only [intOf]; omega
                exact AllReadyH.nil
              exact AllReadyH.nil
            exact AllReadyH.nil
          refine AllReadyH.cons rfl (fun K hK => ?_) ?_
          · go_simp; go_at_call 12; refine (LB.out _).mono ?_; rintro e w3 ⟨rfl, rfl⟩
            refine hK.out _ _ (by (try dsimp only); first | assumption | go_keep) (fun hHeld => ?_)
            clear hK K
            try simp only [Act.put, List.setIfInBounds_toArray, List.set_cons_zero, List.set_cons_succ, List.getElem_toArray, List.getElem_cons_zero, List.getElem_cons_succ]
            refine wpAnyH_take (i := 16) (v := ?_) rfl (by kernel_rfl) (by kernel_rfl) (by kernel_rfl) (fun _ _ _ h => h) (Or.inl ⟨by rfl, ?_⟩) (by assumption) ?_
            rotate_left 1
            · (intro w hSw; (try dsimp only at hSw); (try go_split_ands); go_simp; try with_reducible rfl)
            try simp only [Act.put, List.setIfInBounds_toArray, List.set_cons_zero, List.set_cons_succ, List.getElem_toArray, List.getElem_cons_zero, List.getElem_cons_succ]
            refine wpAnyH_take (i := 17) (v := ?_) rfl (by kernel_rfl) (by kernel_rfl) (by kernel_rfl) (fun _ _ _ h => h) (Or.inl ⟨by rfl, ?_⟩) (by assumption) ?_
            rotate_left 1
            · (intro w hSw; (try dsimp only at hSw); (try go_split_ands); go_simp; try with_reducible rfl)
            try simp only [Act.put, List.setIfInBounds_toArray, List.set_cons_zero, List.set_cons_succ, List.getElem_toArray, List.getElem_cons_zero, List.getElem_cons_succ]
            refine wpAnyH_ready (rs := [1]) (by kernel_rfl) (by simp) ?_
            refine AllReadyH.cons rfl (fun K hK => ?_) ?_
            · (go_simp)
              refine hK.out _ _ (by (try dsimp only); first | assumption | go_keep) (fun hHeld => ?_)
              clear hK K
              try simp only [Act.put, List.setIfInBounds_toArray, List.set_cons_zero, List.set_cons_succ, List.getElem_toArray, List.getElem_cons_zero, List.getElem_cons_succ]
              refine wpAnyH_mono (S := fun W => W.cell? ⟨b, off + k, none⟩ = some (.int .i64 g) ∧ W.cell? ⟨wr.heap.size, j, none⟩ = some (.string fb) ∧ W.cell? ⟨wr.heap.size + 1, i, none⟩ = some (.string fa)) (fun W h => ⟨h.1, h.2.1⟩) _ _ _ _ ?_
              replace hHeld := And.intro hHeld.1 (And.intro hHeld.2 (hN1 (.cells #[.string ⟨#[71, 69, 84]⟩, .string ⟨#[]⟩, .string ⟨#[113]⟩, .string ⟨#[97, 32, 118, 97, 108, 117, 101, 32, 111, 102, 32, 115, 111, 109, 101, 32, 109, 111, 114, 101, 32, 98, 121, 116, 101, 115]⟩] 9)))
              refine wpAnyH_take (i := 7) (v := ?_) rfl (by kernel_rfl) (by kernel_rfl) (by kernel_rfl) (fun _ _ _ h => h) (Or.inl ⟨by rfl, ?_⟩) (by assumption) ?_
              rotate_left 1
              · (intro w hSw; (try dsimp only at hSw); (try go_split_ands); go_simp; try with_reducible rfl)
              try simp only [Act.put, List.setIfInBounds_toArray, List.set_cons_zero, List.set_cons_succ, List.getElem_toArray, List.getElem_cons_zero, List.getElem_cons_succ]
              refine wpAnyH_take (i := 8) (v := ?_) rfl (by kernel_rfl) (by kernel_rfl) (by kernel_rfl) (fun _ _ _ h => h) (Or.inl ⟨by rfl, ?_⟩) (by assumption) ?_
              rotate_left 1
              · (intro w hSw; (try dsimp only at hSw); (try go_split_ands); go_simp; try with_reducible rfl)
              try simp only [Act.put, List.setIfInBounds_toArray, List.set_cons_zero, List.set_cons_succ, List.getElem_toArray, List.getElem_cons_zero, List.getElem_cons_succ]
              refine wpAnyH_take (i := 18) (v := ?_) rfl (by kernel_rfl) (by kernel_rfl) (by kernel_rfl) (fun _ _ _ h => h) (Or.inl ⟨by rfl, ?_⟩) (by assumption) ?_
              rotate_left 1
              · (intro w hSw; (try dsimp only at hSw); (try go_split_ands); go_simp; try with_reducible rfl)
              try simp only [Act.put, List.setIfInBounds_toArray, List.set_cons_zero, List.set_cons_succ, List.getElem_toArray, List.getElem_cons_zero, List.getElem_cons_succ]
              refine wpAnyH_ready (rs := [19]) (by kernel_rfl) (by simp) ?_
              refine AllReadyH.cons rfl (fun K hK => ?_) ?_
              · (go_simp)
                refine hK.out _ _ (by (try dsimp only); first | assumption | go_keep) (fun hHeld => ?_)
                clear hK K
                try simp only [Act.put, List.setIfInBounds_toArray, List.set_cons_zero, List.set_cons_succ, List.getElem_toArray, List.getElem_cons_zero, List.getElem_cons_succ]
                refine wpAnyH_ready (rs := [20]) (by kernel_rfl) (by simp) ?_
                refine AllReadyH.cons rfl (fun K hK => ?_) ?_
                · refine step_appS rfl _ _ 22 rfl w.heap.size 24 _ 2 32 infoF Try.underlying22 rfl (by decide) (.slice A4 k c) k (fdv ((gs.take k).map cfd)) rfl (HO.out _ _ _) ⟨wr.heap.size + 1 + 1, 0, none⟩ 1 1 [.string fa, .string fb] rfl rfl (HRec.out _ _).cells (by intro u hu; simp at hu; rcases hu with rfl | rfl <;> rfl) (by unfold maxLen; omega) (by omega) (HB3.out _ _ _) ?_
                  intro A6 c6 w6 ho6 hg6 _
                  have H6 := Lib.hid (HF.out A6 c6 w6 _ _ _ ho6 hg6)
                  have HC6 := HFc.out w6 _ _ _ hg6
                  refine hK.out _ _ ⟨HC6 _ _ hHeld.1 (.inl rfl), HC6 _ _ hHeld.2.1 (.inr (Nat.le_refl _)), HC6 _ _ hHeld.2.2 (.inr (Nat.le_succ _))⟩ (fun hHeld2 => ?_)
                  clear hK K hHeld ho6 hg6 HC6
                  try simp only [Act.put, List.setIfInBounds_toArray, List.set_cons_zero, List.set_cons_succ, List.getElem_toArray, List.getElem_cons_zero, List.getElem_cons_succ]
                  refine wpAnyH_take (i := 21) (v := ?_) rfl (by kernel_rfl) (by kernel_rfl) (by kernel_rfl) (fun _ _ _ h => h) (Or.inl ⟨by rfl, ?_⟩) (by assumption) ?_
                  rotate_left 1
                  · (intro w hSw; (try dsimp only at hSw); (try go_split_ands); go_simp; try with_reducible rfl)
                  try simp only [Act.put, List.setIfInBounds_toArray, List.set_cons_zero, List.set_cons_succ, List.getElem_toArray, List.getElem_cons_zero, List.getElem_cons_succ]
                  refine wpAnyH_done (by kernel_rfl) ?_ _
                  clear hHeld2
                  go_wp2_with fail
                  go_roundw
                  case rel => exact ⟨k + 1, c6, A6, by omega, rfl, rfl, H6⟩
                  case measure => simp only [intOf]; omega
                exact AllReadyH.nil
              exact AllReadyH.nil
            exact AllReadyH.nil
          exact AllReadyH.nil
        exact AllReadyH.nil
      exact AllReadyH.nil
    · have hkn' : k = n := by omega
      subst hkn'
      have d0 : decide (k < k) = false := decide_eq_false (by omega)
      have d1 : decide ((k : Int) < (k : Int)) = false := decide_eq_false (by omega)
      have hgt : gs.take k = gs := List.take_of_length_le (by rw [hn.out]; omega)
      rw [hgt] at HS
      obtain ⟨fs, hfs⟩ : ∃ fs, gs.map cfd = fs := ⟨_, rfl⟩
      rw [hfs] at HS
      have hlen : Hid (fs.length = k) := Lib.hid (by rw [← hfs, List.length_map]; exact hn.out)
      have hall : Hid (∀ f ∈ fs, fok f = true ∧ f.value.size ≤ 400) := Lib.hid (by
        rw [← hfs]; intro f hf
        obtain ⟨g, _, rfl⟩ := List.mem_map.1 hf
        exact cfd_ok g)
      have hcf : Hid (∀ (m : Nat) (h : m < fs.length) (j : Nat), j < (fline fs[m]).length → 0 < j → (pln ((fline fs[m]).take j)).2.1 = 3) := Lib.hid (by
        rw [← hfs]; intro m h j h1 h2
        rw [List.getElem_map] at h1 ⊢
        exact cfd_cut _ j h1 h2)
      have hsz : Hid (∀ f ∈ fs, f.name.size ≤ 60 ∧ f.value.size ≤ 400) := Lib.hid (fun f hf => ⟨nameok_size (by have := (hall.out f hf).1; unfold fok at this; rw [Bool.and_eq_true] at this; exact this.1), (hall.out f hf).2⟩)
      obtain ⟨A0, c0, e0, hcap, hcap2⟩ := own_shape wr HS.out.1
      injection e0 with e0 _ e00
      subst e0 e00
      have hcap3 : c ≤ 9223372036854775807 := hcap2
      obtain ⟨D, hD⟩ : ∃ D, 0 :: 0 :: flines fs = D := ⟨_, rfl⟩
      obtain ⟨L, hL⟩ : ∃ L, D.length = L := ⟨_, rfl⟩
      have hLb : 2 ≤ L ∧ L ≤ 6000 := by
        have := flines_len fs hsz.out
        rw [hlen.out] at this
        rw [← hL, ← hD]; simp only [List.length_cons]; omega
      obtain ⟨hL2, hLu⟩ := hLb
      have PU : Hid (Calls Try.prog 8 #[.slice A4 k c] wr fun e w' => ∃ A c, e = .returned (.tuple #[.slice A L c, .int .i64 0]) ∧ w'.ownsRow wr.heap.size 5 1 (.slice A L c) L (bv D) ∧ Below wr.heap.size wr w') := Lib.hid (by
        have := fput_any fs A4 c k wr hlen.out (Rd.of_ownS HS.out.1) (by omega) (fun f hf => by have := hsz.out f hf; omega)
        rw [fput_ok fs hall.out (by rw [hlen.out]; omega), hD] at this
        unfold RetP at this
        simp only [hL] at this
        exact this)
      obtain ⟨t, ht, LC⟩ := low_ex cut (L + 1) (by omega) (by omega)
      replace LC : Hid (∀ W : World, Calls Try.prog 12 #[.int .i64 cut, .int .i64 ((L : Int) + 1)] W fun e w' => e = .returned (.int .i64 t) ∧ W = w') := Lib.hid (fun W => by
        have := LC W
        rw [show ((L + 1 : Nat) : Int) = (L : Int) + 1 by omega] at this
        exact this)
      have EXL : Hid (∀ m, m ≤ k → (pos fs m ≤ t ∨ m = 0) → (m < k → t < pos fs m + (fline (fs.getD m fdz)).length) → (pos fs m ≠ t → fget (D.take t) = ([], 3)) ∧ (pos fs m = t → fget (D.take t) = (fs.take m, 0))) := Lib.hid (by
        rw [← hD]
        exact exit_law fs hall.out (by rw [hlen.out]; omega) hcf.out k t hlen.out (by rw [hD, hL]; omega))
      have HQ0 := Lib.hid (Rd.of_ownS HS.out.1)
      have HB0 := Lib.hid HS.out.2
      have d2 : decide (L < 2) = false := decide_eq_false (by omega)
      have d2' : decide ((L : Int) < 2) = false := decide_eq_false (by omega)
      have hltk : Hid ((D.take t).length = t) := Lib.hid (by rw [List.length_take, hL]; omega)
      replace hfs := Lib.hid hfs
      replace hD := Lib.hid hD
      replace hL := Lib.hid hL
      replace hgt := Lib.hid hgt
      clear HS
      go_wp2_with fail
      refine PU.out.mono ?_
      rintro e w1 ⟨A5, c5, rfl, o5, b5⟩
      have hc5 := RetS.cap o5
      have HQ1 := Lib.hid (HQ0.out.below b5)
      have HB1 := Lib.hid (HB0.out.trans (b5.mono HB0.out.size))
      have R5 := Lib.hid ((Rd.of_own o5).take_bytes t)
      clear PU o5 b5 HQ0 HB0
      go_wp2_with fail
      refine (LC.out _).mono ?_
      rintro e w2 ⟨rfl, rfl⟩
      clear d2 d2' LC
      have HC := cut_h (P := Try.prog) Try.underlying26 infoB A5 L c5 t (by omega)
      go_wp2_with (at_builtin; refine wpList_app _ rfl _ _ 26 rfl w1.heap.size 5 (.int .u8 0) 1 infoB Try.underlying26 rfl (.slice none 0 0) 0 [] rfl (World.ownsRow_nil _ _ _ _) A5 t c5 (bv (D.take t)) rfl (by rw [bv_length]; exact hltk.out) R5.out (bv_one _) (by unfold maxLen; omega) (by omega) (Nat.le_refl _) ?_; intro A6 c6 w6 ho6 hg6 _; simp only [Nat.zero_add, List.nil_append] at ho6 ⊢; have F6 := Lib.hid ((Below.refl _ w1).grown hg6 (Nat.le_refl _) (fun q hq => by simp [Value.ownBlock] at hq)))
      have hc6 := RetS.cap ho6
      have HQ6 := Lib.hid (HQ1.out.below F6.out)
      have HB6 := Lib.hid (HB1.out.trans (F6.out.mono HB1.out.size))
      have R6 := Lib.hid (Rd.of_own ho6)
      clear ho6 hg6 F6 HC R5 HQ1 HB1
      obtain ⟨⟨ys, ey⟩, hG⟩ : ∃ q, fget (D.take t) = q := ⟨_, rfl⟩
      obtain ⟨ny, hny⟩ : ∃ ny, ys.length = ny := ⟨_, rfl⟩
      have GT := Lib.hid (fget_any (D.take t) A6 c6 t w6 hltk.out R6.out hc6.1 hc6.2 (by omega))
      rw [hG] at GT
      replace hG := Lib.hid hG
      refine GT.out.mono ?_
      rintro e w7 ⟨A7, c7, rfl, o7, b7⟩
      simp only [hny] at o7 ⊢
      have HQ7 := Lib.hid (HQ6.out.below b7)
      have HY7 := Lib.hid (Rd.of_ownS o7)
      have HB7 := Lib.hid (HB6.out.trans (b7.mono HB6.out.size))
      clear o7 b7 GT R6 HQ6 HB6
      go_wp2_with fail
      go_loopw [11, 12] (fun a mv wr => ∃ m : Nat, m ≤ k ∧ a = .int .i64 (pos fs m) ∧ mv = .int .i64 m ∧ Hid ((pos fs m ≤ t ∨ m = 0) ∧ Below w7.heap.size w7 wr)) (fun _ mv _ => k - (intOf mv).toNat)
      case atStart => exact ⟨0, by omega, by simp [pos, flines], rfl, Lib.hid ⟨.inr rfl, Below.refl _ _⟩⟩
      case round =>
        obtain ⟨m, hm, rfl, rfl, HX⟩ := hrel
        have HZ : Hid (Rd wr A4 (fdv fs) ∧ Rd wr A7 (fdv ys) ∧ Below w.heap.size w wr) := Lib.hid ⟨HQ7.out.below HX.out.2, HY7.out.below HX.out.2, HB7.out.trans (HX.out.2.mono HB7.out.size)⟩
        have hpu : pos fs m ≤ 6000 := by
          have h1 := flines_len (fs.take m) (fun f hf => hsz.out f (List.mem_of_mem_take hf))
          rw [List.length_take] at h1
          unfold pos; omega
        by_cases hmn : m < k
        · have d3 : decide (m < k) = true := decide_eq_true hmn
          have d3' : decide ((m : Int) < (k : Int)) = true := decide_eq_true (by omega)
          have hmf : m < fs.length := by rw [hlen.out]; exact hmn
          obtain ⟨b, off, rfl, x0, x1⟩ := load_fd HZ.out.1 hmf
          obtain ⟨⟨fa, fb⟩, hf⟩ : ∃ f, fs[m] = f := ⟨_, rfl⟩
          have hfz := hsz.out _ (List.getElem_mem hmf)
          have hps := pos_succ fs m hmf
          have hgd : fs.getD m fdz = fs[m] := by rw [List.getD_eq_getElem?_getD, List.getElem?_eq_getElem hmf]; rfl
          have EX0 := EXL.out m hm HX.out.1
          rw [hgd] at EX0
          rw [hf] at x0 x1 hfz hps EX0
          simp only at x0 x1 hfz
          obtain ⟨ll, hll⟩ : ∃ ll, (fline ⟨fa, fb⟩).length = ll := ⟨_, rfl⟩
          have hllb := pline_len ⟨fa, fb⟩ hfz.1 hfz.2
          have LN := Lib.hid (fun W => line_any fa fb W (by omega) (by omega))
          rw [hll] at hps hllb LN EX0
          obtain ⟨p, hp⟩ : ∃ p, pos fs m = p := ⟨_, rfl⟩
          rw [hp] at hps hpu EX0 ⊢
          replace hf := Lib.hid hf
          replace hgd := Lib.hid hgd
          replace hp := Lib.hid hp
          replace hll := Lib.hid hll
          by_cases hfit : p + ll ≤ t
          · have d4 : decide (p + ll ≤ t) = true := decide_eq_true hfit
            have d4' : decide ((p : Int) + (ll : Int) ≤ (t : Int)) = true := decide_eq_true (by omega)
            replace hps := Lib.hid hps
            clear EX0
            go_wp2_with fail
            refine (LN.out _).mono ?_
            rintro e w8 ⟨A8, c8, rfl, o8, b8⟩
            have y0 := ((Fr.of_below b8 NoS).cell (World.block_lt_of_cell? _ _ x0) (fun x => x)).trans x0
            have y1 := ((Fr.of_below b8 NoS).cell (World.block_lt_of_cell? _ _ x1) (fun x => x)).trans x1
            replace b8 := Lib.hid b8
            clear o8 x0 x1
            go_wp2_with fail
            refine (LN.out _).mono ?_
            rintro e w9 ⟨A9, c9, rfl, o9, b9⟩
            have b99 := Lib.hid (HX.out.2.trans ((b8.out.trans (b9.mono b8.out.size)).mono HX.out.2.size))
            clear o9 y0 y1 b9 b8
            go_wp2_with fail
            go_roundw
            case rel => exact ⟨m + 1, by omega, by rw [hps.out, Int.natCast_add], by rw [Int.natCast_succ], Lib.hid ⟨.inl (by rw [hps.out]; exact hfit), b99.out⟩⟩
            case measure => simp only [intOf]; omega
          · have d4 : decide (p + ll ≤ t) = false := decide_eq_false hfit
            have d4' : decide ((p : Int) + (ll : Int) ≤ (t : Int)) = false := decide_eq_false (by omega)
            have EX := EX0 (fun _ => by omega)
            clear EX0 hps
            replace EX := Lib.hid EX
            go_wp2_with fail
            refine (LN.out _).mono ?_
            rintro e w8 ⟨A8, c8, rfl, o8, b8⟩
            replace HZ : Hid (Rd w8 (some ⟨b, off, none⟩) (fdv fs) ∧ Rd w8 A7 (fdv ys) ∧ Below w.heap.size w w8) := Lib.hid ⟨HZ.out.1.below b8, HZ.out.2.1.below b8, HZ.out.2.2.trans (b8.mono HZ.out.2.2.size)⟩
            clear o8 x0 x1 b8 LN
            replace EX := EX.out
            by_cases hpt : p = t
            · have e1 : ((p : Int) != (t : Int)) = false := by rw [bne_eq_false_iff_eq]; omega
              have K := (EX.2 hpt)
              injection (hG.out.symm.trans K) with K1 K2
              subst K1 K2
              have hyl : (fs.take m).length = m := by rw [List.length_take, hlen.out]; omega
              rw [hyl] at hny
              subst hny
              have HS2 := cutS_h (P := Try.prog) Try.underlying22 infoF (some ⟨b, off, none⟩) k c m (m : Int) rfl (by omega)
              have SF := Lib.hid (samef_n true (fs.take m) (fs.take m) m m hyl hyl A7 (some ⟨b, off, none⟩) c7 c w8 (HZ.out.2.1) (by rw [fdv_take]; exact HZ.out.1.take _) (by omega) (by omega) (decide_eq_true rfl))
              clear hyl K EX hpt
              go_wp2_with fail
              refine SF.out.mono ?_
              rintro e wa ⟨rfl, ST⟩
              have HBa := Lib.hid (HZ.out.2.2.trans (ST.below.mono HZ.out.2.2.size))
              clear ST SF
              go_wp2_with fail
              refine (awake_any _).mono ?_
              rintro e wb ⟨rfl, bb⟩
              have HBb := Lib.hid (HBa.out.trans (bb.mono HBa.out.size))
              clear bb
              go_wp2_with fail
              go_ret
              exact ⟨rfl, HBb.out⟩
            · have e1 : ((p : Int) != (t : Int)) = true := by rw [bne_iff_ne]; omega
              have K := (EX.1 hpt)
              injection (hG.out.symm.trans K) with K1 K2
              subst K1 K2
              simp only [List.length_nil] at hny
              subst hny
              clear K EX hpt
              go_wp2_with fail
              refine (awake_any _).mono ?_
              rintro e wb ⟨rfl, bb⟩
              have HBb := Lib.hid (HZ.out.2.2.trans (bb.mono HZ.out.2.2.size))
              clear bb
              go_wp2_with fail
              go_ret
              exact ⟨rfl, HBb.out⟩
        · have hmk : m = k := by omega
          have d3 : decide (m < k) = false := decide_eq_false (by omega)
          have d3' : decide ((m : Int) < (k : Int)) = false := decide_eq_false (by omega)
          have EX := EXL.out m hm HX.out.1 (fun h => absurd h hmn)
          obtain ⟨p, hp⟩ : ∃ p, pos fs m = p := ⟨_, rfl⟩
          rw [hp] at hpu EX ⊢
          replace hp := Lib.hid hp
          clear hmk hmn hkn
          by_cases hpt : p = t
          · have e1 : ((p : Int) != (t : Int)) = false := by rw [bne_eq_false_iff_eq]; omega
            have K := (EX.2 hpt)
            injection (hG.out.symm.trans K) with K1 K2
            subst K1 K2
            have hyl : (fs.take m).length = m := by rw [List.length_take, hlen.out]; omega
            rw [hyl] at hny
            subst hny
            have HS2 := cutS_h (P := Try.prog) Try.underlying22 infoF A4 k c m (m : Int) rfl (by omega)
            have SF := Lib.hid (samef_n true (fs.take m) (fs.take m) m m hyl hyl A7 A4 c7 c wr (HZ.out.2.1) (by rw [fdv_take]; exact HZ.out.1.take _) (by omega) (by omega) (decide_eq_true rfl))
            clear hyl K EX hpt
            go_wp2_with fail
            refine SF.out.mono ?_
            rintro e wa ⟨rfl, ST⟩
            have HBa := Lib.hid (HZ.out.2.2.trans (ST.below.mono HZ.out.2.2.size))
            clear ST SF
            go_wp2_with fail
            refine (awake_any _).mono ?_
            rintro e wb ⟨rfl, bb⟩
            have HBb := Lib.hid (HBa.out.trans (bb.mono HBa.out.size))
            clear bb
            go_wp2_with fail
            go_ret
            exact ⟨rfl, HBb.out⟩
          · have e1 : ((p : Int) != (t : Int)) = true := by rw [bne_iff_ne]; omega
            have K := (EX.1 hpt)
            injection (hG.out.symm.trans K) with K1 K2
            subst K1 K2
            simp only [List.length_nil] at hny
            subst hny
            clear K EX hpt
            go_wp2_with fail
            refine (awake_any _).mono ?_
            rintro e wb ⟨rfl, bb⟩
            have HBb := Lib.hid (HZ.out.2.2.trans (bb.mono HZ.out.2.2.size))
            clear bb
            go_wp2_with fail
            go_ret
            exact ⟨rfl, HBb.out⟩

set_option maxRecDepth 100000 in
set_option maxHeartbeats 2000000 in
theorem cuts_any (gs : List Int) (cut : Int) (A : Option Addr) (cap : Nat) (w : World) (hr : Rd w A (gs.map (Value.int .i64))) (hc : gs.length ≤ 9223372036854775807) :
    Calls Try.prog 6 #[.slice A gs.length cap, .int .i64 cut] w fun e w' => e = .returned (.bool true) ∧ Below w.heap.size w w' := by
  obtain ⟨n, hn⟩ : ∃ n, gs.length = n := ⟨_, rfl⟩
  rw [hn] at hc ⊢
  by_cases h : n ≤ 10
  · exact cuts_in gs cut A cap n w hn hr h
  · have b2 : decide ((10 : Int) < (n : Int)) = true := decide_eq_true (by omega)
    clear hn hr
    go_enter Try.func6, Try.ntmps6
    go_wp2_with fail
    refine (awake_any _).mono ?_
    rintro e wf ⟨rfl, hbf⟩
    go_wp2_with fail
    go_ret
    exact ⟨rfl, hbf⟩
end Go.Proofs.Ytjkimabcpamdcaa
