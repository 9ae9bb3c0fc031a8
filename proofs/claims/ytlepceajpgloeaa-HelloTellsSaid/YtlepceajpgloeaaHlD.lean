/- hello: Put. -/
import Derived.Test.YtlepceajpgloeaaHlC
import Derived.Deep.CutRange
namespace Go.Proofs.Ytlepceajpgloeaa
open Go.RowKit

/-- append as one step of a region that draws. -/
theorem step_app {P : Program} {w : World} {ops : Array Oper} {o : Oper} {a : Act} {K : Act → World → Prop} {Q : Exit → Act → World → Prop} {E : Prop} (hgd : o.guard = none) (s x : Operand) (t : TypeId)
    (ho : o.op = .call { callee := .builtin .append, args := #[s, x], argTypes := #[t, t] })
    (base : Nat) (e : TypeId) (z : Value) (bytes : Nat) (hinfo : (P.info? e).map (fun i => (i.zero, i.size, i.bytes)) = some (some z, 1, bytes)) (ht : P.underlying t = some (.slice e)) (hzs : z.cells.size = 1)
    (v : Value) (n : Nat) (xs : List Value) (hs : a.eval s = v) (hown : w.ownsRow base e 1 v n xs)
    (A : Option Addr) (m c : Nat) (news : List Value) (hx : a.eval x = .slice A m c) (hl : news.length = m) (hr : Rd w A news) (h1 : ∀ u ∈ news, u.oneCell' = true)
    (h63 : n + m ≤ maxLen) (hbytes : (n + m) * bytes ≤ 140737488355328) (hbase : base ≤ w.heap.size)
    (h : ∀ A' c' w', w'.ownsRow base e 1 (.slice A' (n + m) c') (n + m) (xs ++ news) → w.grownBy w' v.ownBlock →
      ((Value.slice A' (n + m) c').ownBlock = v.ownBlock ∨ (Value.slice A' (n + m) c').ownBlock = some w.heap.size) → K (a.put o.dst (.slice A' (n + m) c')) w') :
    if Region.wanted o (yielded ops a.tmps) = true then Oper.wp P o a w K Q else E := by
  have hw : Region.wanted o (yielded ops a.tmps) = true := by simp [Region.wanted, hgd]
  rw [if_pos hw]
  obtain ⟨i, hi, hz, hsize, hby⟩ := info_parts hinfo
  exact wp_app w s x t ho base e i z bytes ht hi hz hsize hby hzs v n xs hs hown A m c news hx hl hr h1 h63 hbytes hbase h

def hids (ids : List (List UInt8)) : List UInt8 := ids.flatMap fun i => 8 :: i
theorem hids_snoc (l : List (List UInt8)) (i : List UInt8) : hids (l ++ [i]) = hids l ++ [8] ++ i := by simp [hids]
theorem hids_len (ids : List (List UInt8)) (h : ∀ i ∈ ids, i.length = 8) : (hids ids).length = 9 * ids.length := by
  induction ids with
  | nil => rfl
  | cons i l ih =>
    have h1 := ih (fun j hj => h j (List.mem_cons_of_mem _ hj))
    have h2 := h i List.mem_cons_self
    unfold hids at h1 ⊢
    simp only [List.flatMap_cons, List.length_append, List.length_cons]
    omega
def hbod (r : List UInt8) (ids : List (List UInt8)) : List UInt8 := r ++ [UInt8.ofNat ids.length] ++ hids ids
def hput (s : Bool) (r : List UInt8) (ids : List (List UInt8)) : List UInt8 × Int :=
  if ids.length < 1 ∨ 4 < ids.length then ([], 2) else if (ids.all fun i => decide (i.length = 8)) = true then (hpiece (if s then 2 else 1) (hbod r ids), 0) else ([], 2)
def RetP (w : World) (x : List UInt8 × Int) (e : Ending) (w' : World) : Prop :=
  ∃ A c, e = .returned (.tuple #[.slice A x.1.length c, .int .i64 x.2]) ∧ w'.ownsRow w.heap.size 5 1 (.slice A x.1.length c) x.1.length (bv x.1) ∧ Below w.heap.size w w'

set_option maxRecDepth 100000 in
set_option maxHeartbeats 8000000 in
theorem hput_any (s : Bool) (r : List UInt8) (ids : List (List UInt8)) (A : Option Addr) (n c : Nat) (w : World) (hr : r.length = 32) (hn : ids.length = n) (hR : RdR w A ids) (hl : n ≤ 1000000) :
    Calls Try.prog 9 #[.agg (hcl s r A n c)] w (RetP w (hput s r ids)) := by
  have B1 := (Below.refl _ w).alloc (Nat.le_refl _) (.cells (hcl s r A n c) 27 (0, 0))
  have H1 : (w.alloc (.cells (hcl s r A n c) 27 (0, 0))).heap[w.heap.size]? = some (.cells (hcl s r A n c) 27 (0, 0)) := heap_alloc_new w _
  obtain ⟨W1, hW1⟩ : ∃ W1, w.alloc (.cells (hcl s r A n c) 27 (0, 0)) = W1 := ⟨_, rfl⟩
  rw [hW1] at B1 H1
  have HR1 := hR.fr B1
  have c0 := wrote_cell H1 0 _ (hcl_0 s r A n c)
  have c33 := wrote_cell H1 33 _ (hcl_33 s r A n c hr)
  have RR : Rd W1 (some ⟨w.heap.size, 1, none⟩) (bv r) := fun _ => ⟨_, 1, rfl, fun k u hk => by
    rw [cell_of_row W1 _ (1 + k) _ _ (0, 0) H1]; exact hcl_r s r A n c k u hk⟩
  obtain ⟨cs, hcs⟩ : ∃ cs, hcl s r A n c = cs := ⟨_, rfl⟩
  have k0 := hcl_0 s r A n c
  have k33 := hcl_33 s r A n c hr
  rw [hcs] at hW1 H1 k0 k33 ⊢
  have hlt1 := heap_lt H1
  replace hcs := Lib.hid hcs
  replace H1 := Lib.hid H1
  replace hW1 := Lib.hid hW1
  replace B1 := Lib.hid B1
  replace HR1 := Lib.hid HR1
  replace RR := Lib.hid RR
  replace hn := Lib.hid hn
  replace hr := Lib.hid hr
  replace c0 := Lib.hid c0
  replace c33 := Lib.hid c33
  clear hR
  by_cases h1 : n < 1 ∨ 4 < n
  · have HP : Hid (hput s r ids = ([], 2)) := Lib.hid (by unfold hput; rw [if_pos (by rw [hn.out]; exact h1)])
    have B : Hid (Below w.heap.size w W1) := B1
    rcases h1 with h1 | h1
    · have d1 : decide ((n : Int) < 1) = true := decide_eq_true (by omega)
      have d1' : decide (n < 1) = true := decide_eq_true h1
      replace h1 := Lib.hid h1
      have hn0 : Hid (n = 0) := Lib.hid (by have := h1.out; omega)
      go_enter Try.func9, Try.ntmps9
      go_wp2_with fail
      go_ret2
      rw [HP.out]
      exact ⟨none, 0, rfl, World.ownsRow_nil _ _ _ _, by rw [hW1.out]; exact B.out⟩
    · have d1 : decide ((n : Int) < 1) = false := decide_eq_false (by omega)
      have d1' : decide (n < 1) = false := decide_eq_false (by omega)
      have d2 : decide ((4 : Int) < (n : Int)) = true := decide_eq_true (by omega)
      have d2' : decide (4 < n) = true := decide_eq_true h1
      replace h1 := Lib.hid h1
      go_enter Try.func9, Try.ntmps9
      go_wp2_with fail
      go_ret2
      rw [HP.out]
      exact ⟨none, 0, rfl, World.ownsRow_nil _ _ _ _, by rw [hW1.out]; exact B.out⟩
  · have d1 : decide ((n : Int) < 1) = false := decide_eq_false (by omega)
    have d1' : decide (n < 1) = false := decide_eq_false (by omega)
    have d2 : decide ((4 : Int) < (n : Int)) = false := decide_eq_false (by omega)
    have d2' : decide (4 < n) = false := decide_eq_false (by omega)
    have hn1 : 1 ≤ n := by omega
    have hn4 : n ≤ 4 := by omega
    have HP : Hid (hput s r ids = if (ids.all fun i => decide (i.length = 8)) = true then (hpiece (if s then 2 else 1) (hbod r ids), 0) else ([], 2)) := Lib.hid (by unfold hput; rw [if_neg (by rw [hn.out]; exact h1)])
    clear h1
    go_enter Try.func9, Try.ntmps9
    go_wp2_with fail
    clear d1 d1' d2 d2'
    rw [hW1.out]
    have CL := Lib.hid (fun W h => clone_to r 32 (some ⟨w.heap.size, 1, none⟩) 32 W hr.out h (fun h => by cases h) (by omega))
    obtain ⟨x, hx⟩ : ∃ x : UInt8, UInt8.ofNat n = x := ⟨_, rfl⟩
    have hxn : (n : Int) = x.toNat := by
      have := u8val n; rw [hx] at this; omega
    have HX : Hid (∀ (W : World) (o : Obj) (g : Nat), o = Obj.cells #[.int .u8 (n : Int)] 5 → W.heap.size = g → Rd (W.alloc o) (some ⟨g, 0, none⟩) (bv [x])) := Lib.hid (fun W o g ho hg => by
      subst ho hg
      rw [hxn]
      exact Rd.fresh_mark W (bv [x]) 5 (0, 0))
    have hx' : Hid (x = UInt8.ofNat ids.length) := Lib.hid (by rw [← hx, hn.out])
    have c33' := c33.out
    have hW1n : Hid (W1.heap.size = w.heap.size + 1) := Lib.hid (by rw [← hW1.out]; simp)
    clear hx hxn k0 k33
    have BB := Lib.hid (fun o => ((Below.refl _ W1).alloc (Nat.le_refl _) o : Below W1.heap.size W1 (W1.alloc o)))
    have HX1 : Hid (∀ W : World, Below W1.heap.size W1 W → W.cell? ⟨w.heap.size, 33, none⟩ = some (.slice A n c)) := Lib.hid (fun W h => (h.cell (p := ⟨w.heap.size, 33, none⟩) hlt1).trans c33')
    have hwr : IntKind.u8.wrap (n : Int) = n := IntWalk.u8_in _ (by omega)
    go_region_held3 (fun W => W.cell? ⟨w.heap.size, 33, none⟩ = some (.slice A n c)) (first | assumption | go_keep) (first
      | (go_at_call 22; refine (CL.out _ (by first | exact RR.out | exact (RR.out.drew) | exact (RR.out.alloc _) | exact (RR.out.alloc _).drew | exact (RR.out.drew.alloc _))).mono ?_; rintro e w2 ⟨A2, c2, rfl, o2, b2⟩; (first | (have BA := Lib.hid ((Still.drew W1).below.trans b2); have OA := Lib.hid (own_base (base2 := W1.heap.size) o2 (fun q hq => (o2.lt q hq).1))) | (have BA := Lib.hid ((BB.out _).trans (((Still.drew (W1.alloc _)).below.trans b2).mono (BB.out _).size)); have OA := Lib.hid (own_base (base2 := W1.heap.size) o2 (fun q hq => Nat.le_trans (BB.out _).size (o2.lt q hq).1)))); have hcell2 := HX1.out w2 BA.out)
      | ((have OZ : Hid ((w2.alloc (.cells #[.int .u8 (n : Int)] 5)).ownsRow W1.heap.size 5 1 (.slice A2 32 c2) 32 (bv r)) := Lib.hid (OA.out.alloc (.cells #[.int .u8 (n : Int)] 5)); have BZ := Lib.hid (BA.out.alloc BA.out.size (.cells #[.int .u8 (n : Int)] 5))); (refine step_app rfl _ _ 24 rfl W1.heap.size 5 (.int .u8 0) 1 infoB Try.underlying24 rfl (.slice A2 32 c2) 32 (bv r) rfl OZ.out (some ⟨w2.heap.size, 0, none⟩) 1 1 (bv [x]) rfl rfl (HX.out w2 _ _ rfl rfl) (bv_one _) (by unfold maxLen; omega) (by omega) BZ.out.size ?_); intro A3 c3 w3 o3 g3 _; have B3 := Lib.hid (Fr.under BZ.out BZ.out.size ((Fr.refl (fun q => (Value.slice A2 32 c2).ownBlock = some q) _).grown g3 (fun _ hq _ => hq)) (fun q hq _ => (OZ.out.lt q hq).1)); have hcell3 := HX1.out w3 B3.out; simp only [Nat.reduceAdd, ← bv_append] at o3 ⊢; replace o3 := Lib.hid o3; clear OZ BZ OA BA b2 o2 hcell2 g3)
      | ((have OZ := OA; have BZ := BA); (refine step_app rfl _ _ 24 rfl W1.heap.size 5 (.int .u8 0) 1 infoB Try.underlying24 rfl (.slice A2 32 c2) 32 (bv r) rfl OZ.out (some ⟨W1.heap.size, 0, none⟩) 1 1 (bv [x]) rfl rfl ((HX.out W1 _ _ rfl rfl).drew.below b2) (bv_one _) (by unfold maxLen; omega) (by omega) BZ.out.size ?_); intro A3 c3 w3 o3 g3 _; have B3 := Lib.hid (Fr.under BZ.out BZ.out.size ((Fr.refl (fun q => (Value.slice A2 32 c2).ownBlock = some q) _).grown g3 (fun _ hq _ => hq)) (fun q hq _ => (OZ.out.lt q hq).1)); have hcell3 := HX1.out w3 B3.out; simp only [Nat.reduceAdd, ← bv_append] at o3 ⊢; replace o3 := Lib.hid o3; clear OZ BZ OA BA b2 o2 hcell2 g3))
    all_goals
      go_wp2_with fail
      clear hcell3 hwr HX CL c33'
      go_loopw [4, 29] (fun v i wr => ∃ (k m c4 : Nat) (A4 : Option Addr), k ≤ n ∧ i = .int .i64 k ∧ v = .slice A4 m c4 ∧ m = 33 + 9 * k ∧ Hid (((ids.take k).all fun i => decide (i.length = 8)) = true ∧ wr.ownsRow W1.heap.size 5 1 (.slice A4 m c4) m (bv (r ++ [x] ++ hids (ids.take k))) ∧ Below W1.heap.size W1 wr)) (fun _ i _ => n - (intOf i).toNat)
      case atStart => exact ⟨0, 33, c3, A3, by omega, rfl, rfl, rfl, Lib.hid ⟨rfl, by simpa [hids] using o3.out, B3.out⟩⟩
      case round =>
        clear o3 B3
        obtain ⟨k, m, c4, A4, hk, rfl, rfl, hm, HS⟩ := hrel
        by_cases hkn : k < n
        · have hkl : k < ids.length := by rw [hn.out]; exact hkn
          obtain ⟨b, off, Ak, ck, rfl, g1, g2, g3, g4⟩ := HR1.out.at_ hkl
          have hmem : ids[k] ∈ ids := List.getElem_mem hkl
          have htk : ids.take (k + 1) = ids.take k ++ [ids[k]] := by rw [List.take_succ_eq_append_getElem hkl]
          obtain ⟨id, hid⟩ : ∃ id, ids[k] = id := ⟨_, rfl⟩
          rw [hid] at g1 g2 g3 hmem htk
          obtain ⟨q, hq⟩ : ∃ q, id.length = q := ⟨_, rfl⟩
          rw [hq] at g1 g3
          have g1w := (HS.out.2.2.cell (p := ⟨b, off + k, none⟩) (World.block_lt_of_cell? W1 _ g1)).trans g1
          replace g2 := Lib.hid g2
          replace g1 := Lib.hid g1
          by_cases h8 : q = 8
          · subst h8
            have H2 : Hid (((ids.take (k + 1)).all fun i => decide (i.length = 8)) = true) := Lib.hid (by rw [htk, List.all_append, HS.out.1]; simp [hq])
            have H3 : Hid (r ++ [x] ++ hids (ids.take (k + 1)) = r ++ [x] ++ hids (ids.take k) ++ [8] ++ id) := Lib.hid (by rw [htk, hids_snoc]; simp [List.append_assoc])
            obtain ⟨D, hD⟩ : ∃ D, r ++ [x] ++ hids (ids.take k) = D := ⟨_, rfl⟩
            rw [hD] at H3 HS
            have O4 := Lib.hid (HS.out.2.1.alloc (.cells #[.int .u8 8] 5))
            have B4 := Lib.hid (HS.out.2.2.alloc HS.out.2.2.size (.cells #[.int .u8 8] 5))
            have R4 := Lib.hid (Rd.fresh_mark wr (bv [8]) 5 (0, 0))
            replace htk := Lib.hid htk
            replace hq := Lib.hid hq
            replace hD := Lib.hid hD
            replace hm := Lib.hid hm
            have hm80 : m ≤ 100 := by have := hm.out; omega
            clear HS hid hkl
            go_wp2_with (at_builtin; refine Hid.out ?_)
            refine Lib.hid ?_
            refine wpList_app _ rfl _ _ 24 rfl W1.heap.size 5 (.int .u8 0) 1 infoB Try.underlying24 rfl (.slice A4 m c4) m (bv D) rfl O4.out (some ⟨wr.heap.size, 0, none⟩) 1 1 (bv [8]) rfl rfl R4.out (bv_one _) (by unfold maxLen; omega) (by omega) B4.out.size ?_
            intro A6 c6 w6 o6 g6 _
            have B6 := Lib.hid (Fr.under B4.out B4.out.size ((Fr.refl (fun q => (Value.slice A4 m c4).ownBlock = some q) _).grown g6 (fun _ hq _ => hq)) (fun q hq _ => (O4.out.lt q hq).1))
            have R6 := Lib.hid (g2.out.below B6.out)
            rw [← bv_append] at o6
            replace o6 := Lib.hid o6
            clear g6 O4 B4 R4 g1w
            go_wp2_with (at_builtin; refine Hid.out ?_)
            refine Lib.hid ?_
            refine wpList_app _ rfl _ _ 24 rfl W1.heap.size 5 (.int .u8 0) 1 infoB Try.underlying24 rfl (.slice A6 (m + 1) c6) (m + 1) (bv (D ++ [8])) rfl o6.out Ak 8 ck (bv id) rfl (by rw [bv_length]; exact hq.out) R6.out (bv_one _) (by unfold maxLen; omega) (by omega) B6.out.size ?_
            intro A7 c7 w7 o7 g7 _
            have B7 := Lib.hid (Fr.under B6.out B6.out.size ((Fr.refl (fun q => (Value.slice A6 (m + 1) c6).ownBlock = some q) _).grown g7 (fun _ hq _ => hq)) (fun q hq _ => (o6.out.lt q hq).1))
            rw [← bv_append, ← H3.out] at o7
            replace o7 := Lib.hid o7
            clear g7 o6 B6 R6
            go_wp2_with fail
            go_roundw
            case rel => exact ⟨k + 1, m + 1 + 8, c7, A7, by omega, by go_num, rfl, by have := hm.out; omega, Lib.hid ⟨H2.out, o7.out, B7.out⟩⟩
            case measure => simp [intOf]; omega
          · have d5 : ((q : Int) != 8) = true := by rw [bne_iff_ne]; omega
            have H2 : Hid (hput s r ids = ([], 2)) := Lib.hid (by
              rw [HP.out, if_neg]
              intro h
              have := List.all_eq_true.1 h _ hmem
              simp [hq, h8] at this)
            replace htk := Lib.hid htk
            replace hq := Lib.hid hq
            replace hm := Lib.hid hm
            clear hid hkl
            go_wp2_with fail
            go_ret2
            rw [H2.out]
            exact ⟨none, 0, rfl, World.ownsRow_nil _ _ _ _, B1.out.trans (HS.out.2.2.mono B1.out.size)⟩
        · have hk' : k = n := by omega
          subst hk'
          have htk : ids.take k = ids := List.take_of_length_le (by rw [hn.out]; exact Nat.le_refl _)
          rw [htk] at HS
          obtain ⟨D, hD⟩ : ∃ D, r ++ [x] ++ hids ids = D := ⟨_, rfl⟩
          rw [hD] at HS
          have hDl : D.length = m := by
            have h1 := HS.out.2.1.1
            simpa using h1
          have hHb : hbod r ids = D := by unfold hbod; rw [← hx'.out, hD]
          have H2 : Hid (hput s r ids = (hpiece (if s then 2 else 1) D, 0)) := Lib.hid (by rw [HP.out, if_pos HS.out.1, hHb])
          have hPl : ∀ y, (hpiece y D).length = 4 + m := fun y => by unfold hpiece hhead; rw [List.length_append, hDl]; rfl
          have c0w := (HS.out.2.2.cell (p := ⟨w.heap.size, 0, none⟩) hlt1).trans c0.out
          have P1 := Lib.hid (piece_any 1 1 D A4 c4 m wr rfl hDl (Rd.of_own HS.out.2.1) (by omega))
          have P2 := Lib.hid (piece_any 2 2 D A4 c4 m wr rfl hDl (Rd.of_own HS.out.2.1) (by omega))
          have B9 := Lib.hid (B1.out.trans (HS.out.2.2.mono B1.out.size))
          replace hDl := Lib.hid hDl
          replace hD := Lib.hid hD
          replace htk := Lib.hid htk
          replace hHb := Lib.hid hHb
          replace hPl := Lib.hid hPl
          clear HS hm
          cases s
          · go_wp2_with fail
            refine P1.out.mono ?_
            rintro e w8 ⟨A8, c8, rfl, o8, b8⟩
            replace o8 := Lib.hid o8
            replace b8 := Lib.hid b8
            go_wp2_with fail
            go_ret2
            rw [H2.out]
            refine ⟨A8, c8, by rw [hPl.out]; rfl, ?_, B9.out.trans (b8.out.mono B9.out.size)⟩
            rw [hPl.out]
            exact own_base o8.out (fun q hq => Nat.le_trans B9.out.size (o8.out.lt q hq).1)
          · go_wp2_with fail
            refine P2.out.mono ?_
            rintro e w8 ⟨A8, c8, rfl, o8, b8⟩
            replace o8 := Lib.hid o8
            replace b8 := Lib.hid b8
            go_wp2_with fail
            go_ret2
            rw [H2.out]
            refine ⟨A8, c8, by rw [hPl.out]; rfl, ?_, B9.out.trans (b8.out.mono B9.out.size)⟩
            rw [hPl.out]
            exact own_base o8.out (fun q hq => Nat.le_trans B9.out.size (o8.out.lt q hq).1)
end Go.Proofs.Ytlepceajpgloeaa
