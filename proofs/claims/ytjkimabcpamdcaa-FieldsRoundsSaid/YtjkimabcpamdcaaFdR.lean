/- FieldsJoins: it is true at every input. -/
import Derived.Test.YtjkimabcpamdcaaFdM
import Derived.Deep.RegionHeld3
import Derived.StillTailTactics
import Derived.Deep.CutRange
namespace Go.Proofs.Ytjkimabcpamdcaa
open Go.RowKit

theorem own_apart {w : World} {b1 b2 e1 e2 s1 s2 n1 n2 : Nat} {A1 A2 : Option Addr} {c1 c2 : Nat} {x1 x2 : List Value} (h1 : w.ownsRow b1 e1 s1 (.slice A1 n1 c1) n1 x1) (h2 : w.ownsRow b2 e2 s2 (.slice A2 n2 c2) n2 x2) (ht : (e1 == e2) = false) : ∀ k, (Value.slice A1 n1 c1).ownBlock = some k → ¬ (Value.slice A2 n2 c2).ownBlock = some k := by
  intro k q1 q2
  rcases h1.2 with ⟨h, _⟩ | ⟨g, cap, cur, hv, _, hg, _⟩
  · rw [h] at q1; cases q1
  · rw [hv] at q1; injection q1 with q1; subst q1
    rcases h2.2 with ⟨h, _⟩ | ⟨g', cap', cur', hv', _, hg', _⟩
    · rw [h] at q2; cases q2
    · rw [hv'] at q2; injection q2 with q2; subst q2
      rw [hg] at hg'
      injection hg' with e
      injection e with _ e
      subst e
      simp at ht

/-- append of records, the source nil, empty or not. -/
theorem wpList_appSN {P : Program} {w : World} {ops : Array Oper} {rest : List Oper} {o : Oper} {a : Act} {Q : Exit → Act → World → Prop} (hgd : o.guard = none) (s x : Operand) (t : TypeId)
    (ho : o.op = .call { callee := .builtin .append, args := #[s, x], argTypes := #[t, t] })
    (base : Nat) (e : TypeId) (z : Value) (size bytes : Nat) (hinfo : (P.info? e).map (fun i => (i.zero, i.size, i.bytes)) = some (some z, size, bytes)) (ht : P.underlying t = some (.slice e)) (hzs : z.cells.size = size) (hsz : 0 < size)
    (v : Value) (n : Nat) (xs : List Value) (hs : a.eval s = v) (hown : w.ownsRow base e size v n xs)
    (A : Option Addr) (m c : Nat) (news : List Value) (hx : a.eval x = .slice A m c) (hl : news.length = m * size) (hr : Rd w A news) (h1 : ∀ u ∈ news, u.oneCell' = true)
    (h63 : n + m ≤ maxLen) (hbytes : (n + m) * bytes ≤ 140737488355328) (hbase : base ≤ w.heap.size)
    (h : ∀ A' c' w', w'.ownsRow base e size (.slice A' (n + m) c') (n + m) (xs ++ news) → w.grownBy w' v.ownBlock → wpList P ops Q rest (a.put o.dst (.slice A' (n + m) c')) w') : wpList P ops Q (o :: rest) a w := by
  cases A with
  | none =>
    have hn : news = [] := by
      rcases news with _ | ⟨y, r⟩
      · rfl
      · obtain ⟨_, _, e', _⟩ := hr (by simp); cases e'
    subst hn
    have hm : m = 0 := by
      rcases Nat.eq_zero_or_pos m with h0 | h0
      · exact h0
      · have := Nat.mul_pos h0 hsz; simp at hl; omega
    subst hm
    obtain ⟨i, hi, hz, hsize, hby⟩ := info_parts hinfo
    refine wpList_plain hgd fun K hK => ?_
    have hrun := run_app_nil (P := P) w base t o.type e i size ht hi v n xs hown c
    obtain ⟨A', c', hv, _⟩ := own_shape w hown
    unfold Oper.wp
    simp only [execOp, ho, resolve, invoke, builtin, Sem.run_bind, Sem.run_pure, Result.andThen_ok, List.map_toArray, List.map_cons, List.map_nil, hs, hx, hrun]
    refine hK _ _ ?_
    have := h A' c' w (by rw [List.append_nil, Nat.add_zero, ← hv]; exact hown) (World.grownBy.refl w _)
    rw [Nat.add_zero, ← hv] at this
    exact this
  | some ad => exact wpList_appS hgd s x t ho base e z size bytes hinfo ht hzs hsz v n xs hs hown ad m c news hx hl hr.cells h1 h63 hbytes hbase fun A' c' w' h2 h3 _ => h A' c' w' h2 h3

set_option maxRecDepth 100000 in
set_option maxHeartbeats 8000000 in
theorem joins_in (gs : List Int) (at0 : Int) (A : Option Addr) (cap n : Nat) (w : World) (hn : gs.length = n) (hr : Rd w A (gs.map (Value.int .i64))) (hn14 : n ≤ 14) :
    Calls Try.prog 5 #[.slice A n cap, .int .i64 at0] w fun e w' => e = .returned (.bool true) ∧ Below w.heap.size w w' := by
  have b1 : decide ((14 : Int) < (n : Int)) = false := decide_eq_false (by omega)
  obtain ⟨g, hg⟩ : ∃ g, w.heap.size = g := ⟨_, rfl⟩
  have HO : Hid (∀ N V C, N = (n6l.map Value.string).toArray → V = (v6l.map Value.string).toArray → C = (bv [0, 0]).toArray → ∀ W2 W3, W2 = (w.alloc (.cells N 9)).alloc (.cells V 9) → W3 = W2.alloc (.cells C 5) →
      W2.heap.size = g + 2 ∧ Rd W2 (some ⟨g, 0, none⟩) (n6l.map Value.string) ∧ Rd W2 (some ⟨g + 1, 0, none⟩) (v6l.map Value.string) ∧ Rd W2 A (gs.map (Value.int .i64)) ∧ Below g w W2 ∧ W3.ownsRow (g + 2) 5 1 (.slice (some ⟨g + 1 + 1, 0, none⟩) 2 2) 2 (bv [0, 0]) ∧ Below (g + 2) W2 W3) := Lib.hid (fun N V C hN hV hC W2 W3 h2 h3 => by
    subst hN hV hC
    have r1 := Rd.fresh_to hg (n6l.map Value.string) 9 (0, 0)
    have s1 : (w.alloc (.cells (n6l.map Value.string).toArray 9)).heap.size = g + 1 := by simp [hg]
    have b1 : Below g w (w.alloc (.cells (n6l.map Value.string).toArray 9)) := (Below.refl _ w).alloc (by omega) _
    have a1 := hr.alloc (.cells (n6l.map Value.string).toArray 9)
    obtain ⟨wa, hwa⟩ : ∃ wa, w.alloc (.cells (n6l.map Value.string).toArray 9) = wa := ⟨_, rfl⟩
    rw [hwa] at r1 s1 b1 a1 h2
    have r2 := Rd.fresh_to s1 (v6l.map Value.string) 9 (0, 0)
    have s2 : W2.heap.size = g + 2 := by rw [h2]; simp [s1]
    refine ⟨s2, by rw [h2]; exact r1.alloc _, by rw [h2]; exact r2, by rw [h2]; exact a1.alloc _, by rw [h2]; exact b1.alloc (by omega) _, ?_, ?_⟩
    · subst h3
      have : (W2.alloc (.cells (bv [0, 0]).toArray 5)).ownsRow (g + 2) 5 1 (.slice (some ⟨W2.heap.size, 0, none⟩) 2 2) 2 (bv [0, 0]) := World.ownsRow_lit W2 _ 2 (by omega) (by simp [maxLen]) rfl
      rw [s2] at this
      exact this
    · subst h3; exact (Below.refl _ _).alloc (by omega) _)
  replace hg := Lib.hid hg
  replace hn := Lib.hid hn
  clear hr
  go_enter Try.func5, Try.ntmps5
  go_wp2_with fail
  clear b1
  have K0 := HO.out _ _ _ rfl rfl rfl _ _ rfl rfl
  have hgo := hg.out
  simp only [hgo]
  obtain ⟨W2, hW2⟩ : ∃ W2, (w.alloc (.cells (n6l.map Value.string).toArray 9)).alloc (.cells (v6l.map Value.string).toArray 9) = W2 := ⟨_, rfl⟩
  simp only [hW2] at K0
  change Code.wp _ _ _ _ (((w.alloc (.cells (n6l.map Value.string).toArray 9)).alloc (.cells (v6l.map Value.string).toArray 9)).alloc (.cells (bv [0, 0]).toArray 5))
  rw [hW2]
  replace hW2 := Lib.hid hW2
  clear HO hgo
  obtain ⟨s2, RN, RV, RA, BW, O3, B3⟩ := K0
  replace RN := Lib.hid RN
  replace RV := Lib.hid RV
  replace RA := Lib.hid RA
  replace BW := Lib.hid BW
  replace s2 := Lib.hid s2
  replace O3 := Lib.hid O3
  replace B3 := Lib.hid B3
  have O3' := O3
  go_loopw [7, 8, 9] (fun v u i wr => ∃ (k c mw cw : Nat) (A4 Aw : Option Addr), k ≤ n ∧ v = .slice A4 k c ∧ u = .slice Aw mw cw ∧ i = .int .i64 k ∧ Hid (mw = (0 :: 0 :: flines ((gs.take k).map jfd)).length ∧ wr.ownsRow (g + 2) 24 2 (.slice A4 k c) k (fdv ((gs.take k).map jfd)) ∧ wr.ownsRow (g + 2) 5 1 (.slice Aw mw cw) mw (bv (0 :: 0 :: flines ((gs.take k).map jfd))) ∧ Below (g + 2) W2 wr)) (fun _ _ i _ => n - (intOf i).toNat)
  case atStart => exact ⟨0, 0, 2, 2, none, _, by omega, rfl, rfl, rfl, Lib.hid ⟨rfl, World.ownsRow_nil _ _ _ _, O3.out, B3.out⟩⟩
  case round =>
    clear O3 O3' B3
    obtain ⟨k, c, mw, cw, A4, Aw, hk, rfl, rfl, rfl, HS⟩ := hrel
    have hmw : mw ≤ 8000 := by
      have := flines_len ((gs.take k).map jfd) (fun f hf => by
        obtain ⟨y, _, rfl⟩ := List.mem_map.1 hf
        have := jfd_ok y
        refine ⟨nameok_size ?_, this.2⟩
        have h1 := this.1
        unfold fok at h1
        rw [Bool.and_eq_true] at h1
        exact h1.1)
      have h2 := HS.out.1
      simp only [List.length_cons, List.length_map, List.length_take] at this h2
      omega
    by_cases hkn : k < n
    · rename_i aa
      clear aa
      have d0 : decide (k < n) = true := decide_eq_true hkn
      have d1 : decide ((k : Int) < (n : Int)) = true := decide_eq_true (by omega)
      have hlt : k < gs.length := by rw [hn.out]; exact hkn
      obtain ⟨y, hy⟩ : ∃ y, gs[k] = y := ⟨_, rfl⟩
      have hBr := HS.out.2.2.2
      rw [← s2.out] at hBr
      obtain ⟨b, off, rfl, hx⟩ := (RA.out.below hBr).at_ (k := k) (by rw [List.length_map]; exact hlt)
      rw [List.getElem_map, hy] at hx
      have htk : (gs.take (k + 1)).map jfd = (gs.take k).map jfd ++ [jfd y] := by rw [List.take_add_one, List.getElem?_eq_getElem hlt, hy]; simp
      obtain ⟨q, hq⟩ : ∃ q, IntKind.i64.wrap (y.tdiv 6) = q := ⟨_, rfl⟩
      obtain ⟨i, hi⟩ : ∃ i, cix y 6 = i := ⟨_, rfl⟩
      obtain ⟨j, hj⟩ : ∃ j, cix q 6 = j := ⟨_, rfl⟩
      have LA : Hid (∀ W : World, Calls Try.prog 12 #[.int .i64 y, .int .i64 6] W fun e w' => e = .returned (.int .i64 (cix y 6)) ∧ W = w') := Lib.hid (fun W => cix_any y 6 W (by omega) (by omega))
      have LB : Hid (∀ W : World, Calls Try.prog 12 #[.int .i64 q, .int .i64 6] W fun e w' => e = .returned (.int .i64 (cix q 6)) ∧ W = w') := Lib.hid (fun W => cix_any q 6 W (by omega) (by omega))
      have hi6 : cix y 6 < 6 := (cix_bd y 6 (by omega) (by omega)).1
      have hj6 : cix q 6 < 6 := (cix_bd q 6 (by omega) (by omega)).1
      have hok := jfd_ok y
      rw [hi] at LA hi6
      rw [hj] at LB hj6
      have hcf : jfd y = ⟨n6 i, v6 j⟩ := by unfold jfd; rw [hq, hi, hj]
      have hNc : wr.cell? ⟨g, i, none⟩ = some (.string (n6 i)) := by
        obtain ⟨b', off', e', h'⟩ := (RN.out.below hBr) (by simp [n6l])
        injection e' with e'; injection e' with e1 e2; subst e1 e2
        have := h' i (.string (n6 i)) (by
          rw [List.getElem?_map, List.getElem?_eq_getElem (show i < n6l.length from hi6)]
          unfold n6
          rw [List.getD_eq_getElem?_getD, List.getElem?_eq_getElem (show i < n6l.length from hi6)]; rfl)
        rwa [Nat.zero_add] at this
      have hVc : wr.cell? ⟨g + 1, j, none⟩ = some (.string (v6 j)) := by
        obtain ⟨b', off', e', h'⟩ := (RV.out.below hBr) (by simp [v6l])
        injection e' with e'; injection e' with e1 e2; subst e1 e2
        have := h' j (.string (v6 j)) (by
          rw [List.getElem?_map, List.getElem?_eq_getElem (show j < v6l.length from hj6)]
          unfold v6
          rw [List.getD_eq_getElem?_getD, List.getElem?_eq_getElem (show j < v6l.length from hj6)]; rfl)
        rwa [Nat.zero_add] at this
      obtain ⟨fa, hfa⟩ : ∃ fa, n6 i = fa := ⟨_, rfl⟩
      obtain ⟨fb, hfb⟩ : ∃ fb, v6 j = fb := ⟨_, rfl⟩
      rw [hfa] at hNc
      rw [hfb] at hVc
      rw [hfa, hfb] at hcf
      rw [hcf] at htk hok
      have hfl : 0 :: 0 :: flines ((gs.take (k + 1)).map jfd) = (0 :: 0 :: flines ((gs.take k).map jfd)) ++ fline ⟨fa, fb⟩ := by rw [htk, flines_snoc]; rfl
      have hsz : fa.size ≤ 60 ∧ fb.size ≤ 400 := by
        refine ⟨nameok_size ?_, hok.2⟩
        have h1 := hok.1
        unfold fok at h1
        rw [Bool.and_eq_true] at h1
        exact h1.1
      have hll := pline_len ⟨fa, fb⟩ hsz.1 hsz.2
      obtain ⟨ql, hql⟩ : ∃ ql, (fline ⟨fa, fb⟩).length = ql := ⟨_, rfl⟩
      have LN := Lib.hid (fun W => line_any fa fb W (by omega) (by omega))
      rw [hql] at LN hll
      have hi0 : (0 : Int) ≤ (i : Int) := by omega
      have hj0 : (0 : Int) ≤ (j : Int) := by omega
      have hiI : (i : Int) < 6 := by omega
      have hjI : (j : Int) < 6 := by omega
      have hk0 : (0 : Int) ≤ (k : Int) := by omega
      have hgl1 : g < wr.heap.size := by have := hBr.size; have := s2.out; omega
      have hgl2 : g + 1 < wr.heap.size := by have := hBr.size; have := s2.out; omega
      have hbl : b < wr.heap.size := World.block_lt_of_cell? wr _ hx
      obtain ⟨fs, hfs⟩ : ∃ fs, (gs.take k).map jfd = fs := ⟨_, rfl⟩
      rw [hfs] at htk hfl HS
      replace htk := Lib.hid htk
      replace hfl := Lib.hid hfl
      replace hfs := Lib.hid hfs
      replace hi := Lib.hid hi
      replace hj := Lib.hid hj
      replace hfa := Lib.hid hfa
      replace hfb := Lib.hid hfb
      replace hcf := Lib.hid hcf
      replace hok := Lib.hid hok
      replace hy := Lib.hid hy
      replace hql := Lib.hid hql
      replace hBr := Lib.hid hBr
      clear hk
      go_wp2_with fail
      have HK : Hid (∀ (W : World) (o : Obj), (W.cell? ⟨b, off + k, none⟩ = some (.int .i64 y) ∧ W.cell? ⟨g, i, none⟩ = some (.string fa) ∧ W.cell? ⟨g + 1, j, none⟩ = some (.string fb)) → (W.alloc o).cell? ⟨b, off + k, none⟩ = some (.int .i64 y) ∧ (W.alloc o).cell? ⟨g, i, none⟩ = some (.string fa) ∧ (W.alloc o).cell? ⟨g + 1, j, none⟩ = some (.string fb)) := Lib.hid (fun W o h => ⟨Lib.cell?_alloc_some o h.1, Lib.cell?_alloc_some o h.2.1, Lib.cell?_alloc_some o h.2.2⟩)
      have HS0 : Hid (wr.cell? ⟨b, off + k, none⟩ = some (.int .i64 y) ∧ wr.cell? ⟨g, i, none⟩ = some (.string fa) ∧ wr.cell? ⟨g + 1, j, none⟩ = some (.string fb)) := Lib.hid ⟨hx, hNc, hVc⟩
      clear hx hNc hVc
      go_region_held3 (fun W => W.cell? ⟨b, off + k, none⟩ = some (.int .i64 y) ∧ W.cell? ⟨g, i, none⟩ = some (.string fa) ∧ W.cell? ⟨g + 1, j, none⟩ = some (.string fb)) (first | assumption | exact HS0.out | exact HK.out _ _ (by assumption) | exact HK.out _ _ HS0.out) (first
        | (go_at_call 12; ((with_reducible refine (LB.out _).mono ?_); rintro e w3 ⟨rfl, rfl⟩))
        | (go_at_call 12; ((with_reducible refine (LA.out _).mono ?_); rintro e w3 ⟨rfl, rfl⟩)))
      all_goals
        rename_i hheld
        clear hheld
        have F5 : Hid (∀ w5, w5 = (wr.alloc (.cells #[.string fa, .string fb] 24)).drew → w5.cell? ⟨wr.heap.size, 0, none⟩ = some (.string fa) ∧ w5.cell? ⟨wr.heap.size, 1, none⟩ = some (.string fb) ∧ w5.heap.size = wr.heap.size + 1 ∧ w5.ownsRow (g + 2) 24 2 (.slice A4 k c) k (fdv fs) ∧ w5.ownsRow (g + 2) 5 1 (.slice Aw mw cw) mw (bv (0 :: 0 :: flines fs)) ∧ Below (g + 2) W2 w5 ∧ (∀ q, (Value.slice A4 k c).ownBlock = some q → q < wr.heap.size)) := Lib.hid (fun w5 h5 => by
          subst h5
          have hc := heap_alloc_new wr (.cells #[.string fa, .string fb] 24)
          exact ⟨wrote_cell hc 0 _ rfl, wrote_cell hc 1 _ rfl, by show (wr.alloc _).heap.size = _; simp, (Still.drew _).own (HS.out.2.1.alloc _), (Still.drew _).own (HS.out.2.2.1.alloc _), (HS.out.2.2.2.alloc (by have := HS.out.2.2.2.size; have := s2.out; omega) _).trans ((Still.drew _).below.mono (by have := HS.out.2.2.2.size; have := s2.out; simp; omega)), fun q hq => (HS.out.2.1.lt q hq).2⟩)
        obtain ⟨w5, hw5⟩ : ∃ w5, (wr.alloc (.cells #[.string fa, .string fb] 24)).drew = w5 := ⟨_, rfl⟩
        have G5 := F5.out w5 hw5.symm
        rw [hw5]
        obtain ⟨B5, hB5⟩ : ∃ B5, wr.heap.size = B5 := ⟨_, rfl⟩
        rw [hB5] at G5 ⊢
        obtain ⟨x0, x1, hs5, of5, ow5, bl5, hap⟩ := G5
        replace hs5 := Lib.hid hs5
        replace of5 := Lib.hid of5
        replace ow5 := Lib.hid ow5
        replace bl5 := Lib.hid bl5
        replace hap := Lib.hid hap
        clear F5 hw5 hB5 HS HS0 HK LA LB hgl1 hgl2 hbl hBr
        have HF : Hid (∀ A6 c6 w6 oa, w6.ownsRow (g + 2) 24 2 (.slice A6 (k + 1) c6) (k + 1) (fdv fs ++ [.string fa, .string fb]) → (w5.alloc oa).grownBy w6 (Value.slice A4 k c).ownBlock → w6.ownsRow (g + 2) 24 2 (.slice A6 (k + 1) c6) (k + 1) (fdv ((gs.take (k + 1)).map jfd)) ∧ w6.ownsRow (g + 2) 5 1 (.slice Aw mw cw) mw (bv (0 :: 0 :: flines fs)) ∧ Below (g + 2) W2 w6 ∧ w6.cell? ⟨B5, 0, none⟩ = some (.string fa) ∧ w6.cell? ⟨B5, 1, none⟩ = some (.string fb)) := Lib.hid (fun A6 c6 w6 oa h6 g6 => by
          have F6 : Fr (fun q => (Value.slice A4 k c).ownBlock = some q) w5 w6 := ((Fr.refl _ w5).alloc oa).grown g6 (fun _ hq _ => hq)
          refine ⟨by rw [htk.out, fdv_append]; exact h6, own_fr ow5.out F6 (own_apart ow5.out of5.out (by decide)), Fr.under bl5.out (by have := bl5.out.size; have := s2.out; omega) F6 (fun q hq _ => (of5.out.lt q hq).1), ?_, ?_⟩
          · exact (F6.cell (p := ⟨B5, 0, none⟩) (World.block_lt_of_cell? _ _ x0) (fun e => by have := hap.out _ e; simp at this)).trans x0
          · exact (F6.cell (p := ⟨B5, 1, none⟩) (World.block_lt_of_cell? _ _ x1) (fun e => by have := hap.out _ e; simp at this)).trans x1)
        have hg5 : Hid (g + 2 ≤ w5.heap.size + 1) := Lib.hid (by have := bl5.out.size; have := s2.out; omega)
        go_wp2_with (at_builtin; refine wpList_appS rfl _ _ 22 rfl (g + 2) 24 _ 2 32 infoF Try.underlying22 rfl (by decide) (.slice A4 k c) k (fdv fs) rfl (of5.out.alloc _) ⟨w5.heap.size, 0, none⟩ 1 1 [.string fa, .string fb] rfl rfl (Rd.fresh_to rfl [.string fa, .string fb] _ _).cells (by intro u hu; simp at hu; rcases hu with rfl | rfl <;> rfl) (by unfold maxLen; omega) (by omega) (by have := hg5.out; simp only [World.size_alloc]; omega) ?_; intro A6 c6 w6 o6 g6 _; obtain ⟨of6, ow6, bl6, z0, z1⟩ := HF.out A6 c6 w6 _ o6 g6; clear o6 g6 x0 x1; replace of6 := Lib.hid of6; replace ow6 := Lib.hid ow6; replace bl6 := Lib.hid bl6)
        refine (LN.out _).mono ?_
        rintro e w8 ⟨A8, c8, rfl, o8, b8⟩
        have of8 := Lib.hid (own_fr of6.out (Fr.of_below b8 NoS) (fun _ _ x => x))
        have ow8 := Lib.hid (own_fr ow6.out (Fr.of_below b8 NoS) (fun _ _ x => x))
        have bl8 := Lib.hid (bl6.out.trans (b8.mono (by have := bl6.out.size; have := s2.out; omega)))
        have r8 := Lib.hid (Rd.of_own o8)
        have hg8 : Hid (g + 2 ≤ w8.heap.size) := Lib.hid (by have := bl8.out.size; have := s2.out; omega)
        clear o8 b8 of6 ow6 bl6 z0 z1 HF
        go_wp2_with (at_builtin; refine wpList_app _ rfl _ _ 26 rfl (g + 2) 5 (.int .u8 0) 1 infoB Try.underlying26 rfl (.slice Aw mw cw) mw (bv (0 :: 0 :: flines fs)) rfl ow8.out A8 ql c8 (bv (fline ⟨fa, fb⟩)) rfl (by rw [bv_length]; exact hql.out) r8.out (bv_one _) (by unfold maxLen; omega) (by omega) hg8.out ?_; intro A9 c9 w9 o9 g9 _; rw [← bv_append, ← hfl.out] at o9; have F9 := Lib.hid ((Fr.refl (fun q => (Value.slice Aw mw cw).ownBlock = some q) w8).grown g9 (fun _ hq _ => hq)); replace o9 := Lib.hid o9; clear g9)
        go_roundw
        case rel => exact ⟨k + 1, c6, mw + ql, c9, A6, A9, by omega, rfl, rfl, by go_num, Lib.hid ⟨by
          have h1 := o9.out.1
          simp only [bv_length] at h1
          omega, own_fr of8.out F9.out (own_apart of8.out ow8.out (by decide)), o9.out, Fr.under bl8.out hg8.out F9.out (fun q hq _ => (ow8.out.lt q hq).1)⟩⟩
        case measure => simp only [intOf]; omega
    · have hk' : k = n := by omega
      subst hk'
      have d0 : decide (k < k) = false := decide_eq_false (by omega)
      have d1 : decide ((k : Int) < (k : Int)) = false := decide_eq_false (by omega)
      have hgt : gs.take k = gs := List.take_of_length_le (by rw [hn.out]; omega)
      rw [hgt] at HS
      have hlen0 : (gs.map jfd).length = k := by rw [List.length_map]; exact hn.out
      have hall0 : ∀ f ∈ gs.map jfd, fok f = true ∧ f.value.size ≤ 400 := by
        intro f hf
        obtain ⟨y, _, rfl⟩ := List.mem_map.1 hf
        exact jfd_ok y
      obtain ⟨fs, hfs⟩ : ∃ fs, gs.map jfd = fs := ⟨_, rfl⟩
      rw [hfs] at HS hlen0 hall0
      have hsz : Hid (∀ f ∈ fs, f.name.size ≤ 60 ∧ f.value.size ≤ 400) := Lib.hid (fun f hf => ⟨nameok_size (by have := (hall0 f hf).1; unfold fok at this; rw [Bool.and_eq_true] at this; exact this.1), (hall0 f hf).2⟩)
      obtain ⟨A0, c0, e0, hcap, hcap2⟩ := own_shape wr HS.out.2.1
      injection e0 with e0 _ e00
      subst e0 e00
      have hcap3 : c ≤ 9223372036854775807 := hcap2
      obtain ⟨t, ht, LC⟩ := low_ex at0 (k + 1) (by omega) (by omega)
      replace LC : Hid (∀ W : World, Calls Try.prog 12 #[.int .i64 at0, .int .i64 ((k : Int) + 1)] W fun e w' => e = .returned (.int .i64 t) ∧ W = w') := Lib.hid (fun W => by
        have := LC W
        rw [show ((k + 1 : Nat) : Int) = (k : Int) + 1 by omega] at this
        exact this)
      have htk : t ≤ k := by omega
      have hPut : Hid (∀ (gs : List Fd) (A : Option Addr) (c m : Nat) (W : World), gs.length = m → (∀ f ∈ gs, f ∈ fs) → m ≤ 14 → Rd W A (fdv gs) → ∃ L, L = (0 :: 0 :: flines gs : List UInt8).length ∧ 2 ≤ L ∧ L ≤ 8000 ∧ Calls Try.prog 8 #[.slice A m c] W fun e w' => ∃ A' c', e = .returned (.tuple #[.slice A' L c', .int .i64 0]) ∧ w'.ownsRow W.heap.size 5 1 (.slice A' L c') L (bv (0 :: 0 :: flines gs)) ∧ Below W.heap.size W w') := Lib.hid (fun gs A c m W h1 h2 h3 h4 => by
        have := fput_any gs A c m W h1 h4 (by omega) (fun f hf => by have := hsz.out f (h2 f hf); omega)
        rw [fput_ok gs (fun f hf => hall0 f (h2 f hf)) (by omega)] at this
        have hl := flines_len gs (fun f hf => hsz.out f (h2 f hf))
        exact ⟨_, rfl, by simp only [List.length_cons]; omega, by simp only [List.length_cons]; omega, this⟩)
      have hGet : Hid (fget (0 :: 0 :: flines fs) = (fs, 0)) := Lib.hid (fget_flines fs hall0 (by omega))
      have hspl : Hid (0 :: 0 :: flines fs = (0 :: 0 :: flines (fs.take t)) ++ (0 :: 0 :: flines (fs.drop t)).drop 2) := Lib.hid (by rw [flines_split fs t]; rfl)
      have HQ := Lib.hid (Rd.of_ownS HS.out.2.1)
      have hA4lt : Hid (∀ a, A4 = some a → a.block < wr.heap.size) := Lib.hid (fun a ha => (HS.out.2.1.lt a.block (by rw [ha]; rfl)).2)
      have HW := Lib.hid (Rd.of_own HS.out.2.2.1)
      have HB : Hid (Below w.heap.size w wr) := Lib.hid (by
        rw [hg.out]
        exact BW.out.trans (HS.out.2.2.2.mono (by omega)))
      have hmw2 : Hid (mw = (0 :: 0 :: flines fs : List UInt8).length) := Lib.hid HS.out.1
      replace hlen0 := Lib.hid hlen0
      replace hall0 := Lib.hid hall0
      replace hfs := Lib.hid hfs
      replace hgt := Lib.hid hgt
      clear HS hkn RN RV RA BW s2 hcap2 hW2
      go_wp2_with fail
      refine (LC.out _).mono ?_
      rintro e w1 ⟨rfl, rfl⟩
      clear d0 d1 LC
      go_wp2_with fail
      obtain ⟨L, hL, hL2, hLu, P1⟩ := hPut.out fs A4 c k wr hlen0.out (fun f hf => hf) hn14 HQ.out
      obtain ⟨D, hD⟩ : ∃ D, 0 :: 0 :: flines fs = D := ⟨_, rfl⟩
      rw [hD] at P1 hL hGet hspl hmw2 HW
      replace hD := Lib.hid hD
      have hmL : mw = L := by rw [hmw2.out, ← hL]
      subst hmL
      replace hL := Lib.hid hL
      refine P1.mono ?_
      rintro e w2 ⟨A2, c2, rfl, o2, b2⟩
      have HQ2 := Lib.hid (HQ.out.below b2)
      have HW2 := Lib.hid (HW.out.below b2)
      have HB2 := Lib.hid (HB.out.trans (b2.mono HB.out.size))
      have HA2 := Lib.hid (Rd.of_own o2)
      have hs23 := b2.size
      have hA2lt : Hid (∀ a, A2 = some a → a.block < w2.heap.size) := Lib.hid (fun a ha => (o2.lt a.block (by rw [ha]; rfl)).2)
      have hc2 := RetS.cap o2
      clear P1 o2 b2 HQ HW HB
      have HSh := cutS_h (P := Try.prog) Try.underlying22 infoF A4 k c t (t : Int) rfl (by omega)
      have hlt1 : Hid ((fs.take t).length = t) := Lib.hid (by rw [List.length_take, hlen0.out]; omega)
      have R2t := Lib.hid (HQ2.out.take (t * 2))
      go_wp2_with (at_builtin; refine Hid.out ?_)
      refine Lib.hid ?_
      refine wpList_appSN rfl _ _ 22 rfl w2.heap.size 24 _ 2 32 infoF Try.underlying22 rfl (by decide) (.slice none 0 0) 0 [] rfl (World.ownsRow_nil _ _ _ _) A4 t c (fdv (fs.take t)) rfl (by rw [fdv_len, hlt1.out]) (by rw [fdv_take]; exact R2t.out) (fdv_one _) (by unfold maxLen; omega) (by omega) (Nat.le_refl _) ?_
      intro A3 c3 w3 o3 g3
      simp only [Nat.zero_add, List.nil_append] at o3 ⊢
      have b3 := (Below.refl _ w2).grown g3 (Nat.le_refl _) (fun q hq => by simp [Value.ownBlock] at hq)
      have HQ3 := Lib.hid (HQ2.out.below b3)
      have HW3 := Lib.hid (HW2.out.below b3)
      have HB3 := Lib.hid (HB2.out.trans (b3.mono HB2.out.size))
      have HA3 := Lib.hid (HA2.out.below b3)
      have HT3 := Lib.hid (Rd.of_ownS o3)
      have HB3s := Lib.hid HB3.out.size
      have HQblk : Hid (∀ a, A4 = some a → a.block < w3.heap.size) := Lib.hid (fun a ha => by have h1 := hA4lt.out a ha; have h2 := hs23; have h3 := b3.size; omega)
      have HAblk : Hid (∀ a, A2 = some a → a.block < w3.heap.size) := Lib.hid (fun a ha => by have h1 := hA2lt.out a ha; have h3 := b3.size; omega)
      clear o3 g3 b3 HQ2 HW2 HB2 HA2 R2t HSh
      obtain ⟨La, hLa, hLa2, hLau, P2⟩ := hPut.out (fs.take t) A3 c3 t w3 hlt1.out (fun f hf => List.mem_of_mem_take hf) (by omega) HT3.out
      obtain ⟨Da, hDa⟩ : ∃ Da, 0 :: 0 :: flines (fs.take t) = Da := ⟨_, rfl⟩
      rw [hDa] at P2 hLa hspl
      replace hLa := Lib.hid hLa
      replace hDa := Lib.hid hDa
      go_wp2_with fail
      refine P2.mono ?_
      rintro e w4 ⟨A5, c5, rfl, o4, b4⟩
      have HQ4 := Lib.hid (HQ3.out.below b4)
      have HW4 := Lib.hid (HW3.out.below b4)
      have HB4 := Lib.hid (HB3.out.trans (b4.mono HB3.out.size))
      have HA4 := Lib.hid (HA3.out.below b4)
      have hc5 := RetS.cap o4
      have hs3 := b4.size
      replace o4 := Lib.hid o4
      clear P2 b4 HQ3 HW3 HB3 HA3 HT3
      obtain ⟨z, hz⟩ : ∃ z, t + z = k := ⟨k - t, by omega⟩
      have HSl := cutS_l (P := Try.prog) Try.underlying22 infoF A4 k c t z (t : Int) rfl hz hcap
      have HX4 := HQ4.out.dropS (k := t) (len := k) (cap := c) (s := 2) htk hcap (by rw [fdv_len, hlen0.out])
      obtain ⟨X, hX⟩ : ∃ X, (if c = t then A4 else A4.map (·.add (t * 2))) = X := ⟨_, rfl⟩
      obtain ⟨cx, hcx⟩ : ∃ cx, c - t = cx := ⟨_, rfl⟩
      rw [hX] at HX4
      simp only [hX, hcx] at HSl
      rw [← fdv_drop] at HX4
      have hlt2 : Hid ((fs.drop t).length = z) := Lib.hid (by rw [List.length_drop, hlen0.out]; omega)
      replace HX4 := Lib.hid HX4
      replace hX := Lib.hid hX
      replace hcx := Lib.hid hcx
      replace hz := Lib.hid hz
      have hzb : z ≤ 14 := by have := hz.out; omega
      go_wp2_with (at_builtin; refine Hid.out ?_)
      refine Lib.hid ?_
      refine wpList_appSN rfl _ _ 22 rfl w4.heap.size 24 _ 2 32 infoF Try.underlying22 rfl (by decide) (.slice none 0 0) 0 [] rfl (World.ownsRow_nil _ _ _ _) X z cx (fdv (fs.drop t)) rfl (by rw [fdv_len, hlt2.out]) HX4.out (fdv_one _) (by unfold maxLen; omega) (by omega) (Nat.le_refl _) ?_
      intro A6 c6 w5 o5 g5
      simp only [Nat.zero_add, List.nil_append] at o5 ⊢
      have b5 := (Below.refl _ w4).grown g5 (Nat.le_refl _) (fun q hq => by simp [Value.ownBlock] at hq)
      have HQ5 := Lib.hid (HQ4.out.below b5)
      have HW5 := Lib.hid (HW4.out.below b5)
      have HB5 := Lib.hid (HB4.out.trans (b5.mono HB4.out.size))
      have HA5 := Lib.hid (HA4.out.below b5)
      have oa5 := Lib.hid (own_fr o4.out (Fr.of_below b5 NoS) (fun _ _ x => x))
      have hs5 := b5.size
      have HT5 := Lib.hid (Rd.of_ownS o5)
      clear o5 g5 b5 HQ4 HW4 HB4 HA4 o4 HX4 HSl
      obtain ⟨Lb, hLb, hLb2, hLbu, P3⟩ := hPut.out (fs.drop t) A6 c6 z w5 hlt2.out (fun f hf => List.mem_of_mem_drop hf) (by omega) HT5.out
      obtain ⟨Db, hDb⟩ : ∃ Db, 0 :: 0 :: flines (fs.drop t) = Db := ⟨_, rfl⟩
      rw [hDb] at P3 hLb hspl
      replace hLb := Lib.hid hLb
      replace hDb := Lib.hid hDb
      go_wp2_with fail
      refine P3.mono ?_
      rintro e w6 ⟨A7, c7, rfl, o6, b6⟩
      have HQ6 := Lib.hid (HQ5.out.below b6)
      have HW6 := Lib.hid (HW5.out.below b6)
      have HB6 := Lib.hid (HB5.out.trans (b6.mono HB5.out.size))
      have HA6 := Lib.hid (HA5.out.below b6)
      have oa6 := Lib.hid (own_fr oa5.out (Fr.of_below b6 NoS) (fun _ _ x => x))
      have HB7 := Lib.hid (Rd.of_own o6)
      have hc7 := RetS.cap o6
      have hs6 := b6.size
      clear P3 o6 b6 HQ5 HW5 HB5 HA5 oa5 HT5 hPut
      have dLb : decide (Lb < 2) = false := decide_eq_false (by omega)
      have dLb' : decide ((Lb : Int) < 2) = false := decide_eq_false (by omega)
      have S1 := Lib.hid (fun W (h : Still w6 W) => same_any D D A2 Aw c2 cw W (h.rd HA6.out) (h.rd HW6.out) (by rw [← hL.out]; omega) (by rw [← hL.out]; omega))
      rw [← hL.out, decide_eq_true (rfl : D = D)] at S1
      obtain ⟨Lc, hLc⟩ : ∃ Lc, Lb - 2 = Lc := ⟨_, rfl⟩
      obtain ⟨Xb, hXb, hXbc⟩ := cut_l (P := Try.prog) Try.underlying26 infoB A7 Lb c7 2 hLb2 hc7.1
      obtain ⟨cb, hcb⟩ : ∃ cb, c7 - 2 = cb := ⟨_, rfl⟩
      rw [hLc, hcb] at hXb
      replace hXb : ∀ w : World, (Instr.sliceAt 26 (.slice A7 Lb c7) (some (.int .i64 2)) none none).run Try.prog w = .ok (.slice Xb Lc cb) w := hXb
      have RXb := hXbc.bytes' HB7.out hLb.out.symm hc7.1
      have hDbl : Hid ((Db.drop 2).length = Lc) := Lib.hid (by rw [List.length_drop, ← hLb.out]; exact hLc)
      have hLsum : Hid (La + Lc = mw) := Lib.hid (by have := congrArg List.length hspl.out; rw [List.length_append, hDbl.out, ← hLa.out, ← hL.out] at this; omega)
      have hLcb : Lc ≤ 8000 := by omega
      replace RXb := Lib.hid RXb
      replace hLc := Lib.hid hLc
      replace hcb := Lib.hid hcb
      have hw36 : w3.heap.size ≤ w6.heap.size := by omega
      clear hXbc
      go_wp2_with fail
      refine (S1.out w6 (Still.refl _)).mono ?_
      rintro e w7 ⟨rfl, q7, rfl⟩
      clear S1
      have ST7 := Still.drewN w6 q7
      obtain ⟨w7, hw7⟩ : ∃ w7, w6.drewN q7 = w7 := ⟨_, rfl⟩
      rw [hw7] at ST7 ⊢
      clear hw7
      have HQ7 := Lib.hid (ST7.rd HQ6.out)
      have HB8 := Lib.hid (HB6.out.trans (ST7.below.mono HB6.out.size))
      have HA7 := Lib.hid (ST7.rd HA6.out)
      have oa7 := Lib.hid (ST7.own oa6.out)
      have RX7 := Lib.hid (ST7.rd RXb.out)
      have hw37 : w3.heap.size ≤ w7.heap.size := by have := ST7.size; omega
      clear ST7 HQ6 HB6 HA6 oa6 RXb HW6 HB7
      go_wp2_with (at_builtin; refine Hid.out ?_)
      refine Lib.hid ?_
      refine wpList_appG _ rfl _ _ 26 rfl w3.heap.size 5 (.int .u8 0) 1 infoB Try.underlying26 rfl (.slice A5 La c5) La (bv Da) rfl oa7.out Xb Lc cb (bv (Db.drop 2)) rfl (by rw [bv_length]; exact hDbl.out) RX7.out (bv_one _) (by unfold maxLen; omega) (by omega) hw37 ?_
      intro A8 c8 w8 o8 g8 _
      rw [← bv_append, ← hspl.out, hLsum.out] at o8
      rw [hLsum.out]
      have b8 : Below w.heap.size w w8 := Fr.under HB8.out HB8.out.size ((Fr.refl (fun q => (Value.slice A5 La c5).ownBlock = some q) w7).grown g8 (fun _ hq _ => hq)) (fun q hq _ => by
        have h1 := (oa7.out.lt q hq).1
        have h2 := HB3s.out
        omega)
      have F8 : Fr (fun q => (Value.slice A5 La c5).ownBlock = some q) w7 w8 := (Fr.refl _ w7).grown g8 (fun _ hq _ => hq)
      have HQ8 := Lib.hid (HQ7.out.fr F8 (fun hp a ha e => by
        have h1 := (oa7.out.lt _ e).1
        have h2 := HQblk.out a ha
        omega))
      have HA8 := Lib.hid (HA7.out.fr F8 (fun hp a ha e => by
        have h1 := (oa7.out.lt _ e).1
        have h2 := HAblk.out a ha
        omega))
      have S2 := Lib.hid (same_any D D A2 A8 c2 c8 w8 HA8.out (Rd.of_own o8) (by rw [← hL.out]; omega) (by rw [← hL.out]; omega))
      rw [← hL.out, decide_eq_true (rfl : D = D)] at S2
      replace b8 := Lib.hid b8
      clear o8 g8 F8 oa7 RX7 HQ7 HA7 HB8
      go_wp2_with fail
      refine S2.out.mono ?_
      rintro e w9 ⟨rfl, q9, rfl⟩
      clear S2 hXb
      have ST9 := Still.drewN w8 q9
      obtain ⟨w9, hw9⟩ : ∃ w9, w8.drewN q9 = w9 := ⟨_, rfl⟩
      rw [hw9] at ST9 ⊢
      clear hw9
      have HQ9 := Lib.hid (ST9.rd HQ8.out)
      have B9 := Lib.hid (b8.out.trans (ST9.below.mono b8.out.size))
      have G9 := fget_any D A2 c2 mw w9 hL.out.symm (ST9.rd HA8.out) hc2.1 hc2.2 (by omega)
      rw [hGet.out] at G9
      unfold RetG at G9
      simp only [hlen0.out] at G9
      replace G9 := Lib.hid G9
      clear ST9 HQ8 HA8 b8
      go_wp2_with fail
      refine G9.out.mono ?_
      rintro e w10 ⟨A10, c10, rfl, o10, b10⟩
      have B10 := Lib.hid (B9.out.trans (b10.mono B9.out.size))
      have SF := Lib.hid (samef_n true fs fs k k hlen0.out hlen0.out A10 A4 c10 c w10 (Rd.of_ownS o10) (HQ9.out.below b10) (by omega) (by omega) (decide_eq_true rfl))
      clear o10 b10 G9 HQ9 B9
      go_wp2_with fail
      refine SF.out.mono ?_
      rintro e w11 ⟨rfl, ST⟩
      have B11 := Lib.hid (B10.out.trans (ST.below.mono B10.out.size))
      clear ST SF B10
      go_wp2_with fail
      refine (awake_any _).mono ?_
      rintro e w12 ⟨rfl, b12⟩
      have B12 := Lib.hid (B11.out.trans (b12.mono B11.out.size))
      clear b12
      go_wp2_with fail
      go_ret
      exact ⟨rfl, B12.out⟩

set_option maxRecDepth 100000 in
set_option maxHeartbeats 2000000 in
theorem joins_any (gs : List Int) (at0 : Int) (A : Option Addr) (cap : Nat) (w : World) (hr : Rd w A (gs.map (Value.int .i64))) (hc : gs.length ≤ 9223372036854775807) :
    Calls Try.prog 5 #[.slice A gs.length cap, .int .i64 at0] w fun e w' => e = .returned (.bool true) ∧ Below w.heap.size w w' := by
  obtain ⟨n, hn⟩ : ∃ n, gs.length = n := ⟨_, rfl⟩
  rw [hn] at hc ⊢
  by_cases h : n ≤ 14
  · exact joins_in gs at0 A cap n w hn hr h
  · have b2 : decide ((14 : Int) < (n : Int)) = true := decide_eq_true (by omega)
    clear hn hr
    go_enter Try.func5, Try.ntmps5
    go_wp2_with fail
    refine (awake_any _).mono ?_
    rintro e wf ⟨rfl, hbf⟩
    go_wp2_with fail
    go_ret
    exact ⟨rfl, hbf⟩
end Go.Proofs.Ytjkimabcpamdcaa
