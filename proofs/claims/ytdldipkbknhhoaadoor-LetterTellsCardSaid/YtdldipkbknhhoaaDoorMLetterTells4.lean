/- What the proof of LetterTells stands on, part 4: 9 texts of ours, one behind the other. -/
import Derived.Deep.RegionHeld3
import Derived.Deep.CutRange
import Derived.Deep.Cut
import Derived.Deep.CutBlock
import Derived.OpenShut
import Derived.Deep.SlicePairs
import Derived.SizedLaws
import Derived.ProofKit
import Derived.ChangeOld
import Derived.ChangeSame
import Derived.LaidMore
import Derived.Deep.QuietTactic
import Derived.BigQuiet
import Derived.Laws.CopyOwn
import Derived.Test.YtdldipkbknhhoaaDoorMLetterTells0
import Derived.Test.YtdldipkbknhhoaaDoorMLetterTells1
import Derived.Test.YtdldipkbknhhoaaDoorMLetterTells2
import Derived.Test.YtdldipkbknhhoaaDoorMLetterTells3
/- The document's letter: a message without padding; what is wrong with a message in a bucket. -/
namespace Go.Proofs.YtdldipkbknhhoaaDoor
open Go.RowKit

theorem step_app {P : Program} {w : World} {ops : Array Oper} {o : Oper} {a : Act} {K : Act → World → Prop} {Q : Exit → Act → World → Prop} {E : Prop} (hgd : o.guard = none) (s x : Operand) (t : TypeId)
    (ho : o.op = .call { callee := .builtin .append, args := #[s, x], argTypes := #[t, t] })
    (base : Nat) (e : TypeId) (z : Value) (bytes : Nat) (hinfo : (P.info? e).map (fun i => (i.zero, i.size, i.bytes)) = some (some z, 1, bytes)) (ht : P.underlying t = some (.slice e)) (hzs : z.cells.size = 1)
    (v : Value) (n : Nat) (xs : List Value) (hs : a.eval s = v) (hown : w.ownsRow base e 1 v n xs)
    (A : Option Addr) (m c : Nat) (news : List Value) (hx : a.eval x = .slice A m c) (hl : news.length = m) (hr : Rd w A news) (h1 : ∀ u ∈ news, u.oneCell' = true)
    (h63 : n + m ≤ maxLen) (hbytes : (n + m) * bytes ≤ 140737488355328) (hbase : base ≤ w.heap.size)
    (h : ∀ A' c' w', w'.ownsRow base e 1 (.slice A' (n + m) c') (n + m) (xs ++ news) → w.grownBy w' v.ownBlock →
      ((Value.slice A' (n + m) c').ownBlock = v.ownBlock ∨ (Value.slice A' (n + m) c').ownBlock = some w.heap.size) → K (a.put o.dst (.slice A' (n + m) c')) w') :
    if Region.wanted o (yielded ops a.tmps) = true then Oper.wp P o a w K Q else E := by
  have hw : Region.wanted o (yielded ops a.tmps) = true := by simp [Region.wanted, hgd]
  rw [if_pos hw]
  obtain ⟨i, hi, hz, hsize, hby⟩ := info_parts hinfo
  exact wp_app w s x t ho base e i z bytes ht hi hz hsize hby hzs v n xs hs hown A m c news hx hl hr h1 h63 hbytes hbase h
theorem vput_one : vput 1 = [1] := by decide +kernel
theorem vput_nul : vput 0 = [0] := by decide +kernel
set_option maxRecDepth 100000 in
set_option maxHeartbeats 8000000 in
theorem rbare_any (fs : List Fd) (D : List UInt8) (A B : Option Addr) (n c m d : Nat) (w : World) (h : MR w fs D A n B m) :
    Calls Tryd.prog 20 #[.agg #[.slice A n c, .slice B m d]] w (RetP w (ltplain fs D)) := by
  obtain ⟨g, hg⟩ : ∃ g, w.heap.size = g := ⟨_, rfl⟩
  obtain ⟨w1, hw1⟩ : ∃ W, w.alloc (.cells #[.slice A n c, .slice B m d] 25) = W := ⟨_, rfl⟩
  have b1 : Hid (Below w.heap.size w w1) := Lib.hid (by rw [← hw1]; exact (Below.refl _ w).alloc (Nat.le_refl _) _)
  have M1 : Hid (Msg w1 g fs D A n c B m d) := Lib.hid (by rw [← hw1]; exact h.alloc hg)
  have x0 := M1.out.c0
  rw [← hw1] at x0
  have hbn := h.bn
  have hbm := h.bm
  replace hw1 := Lib.hid hw1
  replace hg := Lib.hid hg
  obtain ⟨L, hL⟩ : ∃ L, (fput fs).1 = L := ⟨_, rfl⟩
  obtain ⟨E, hE⟩ : ∃ E, (fput fs).2 = E := ⟨_, rfl⟩
  have hLb : L.length ≤ 8002 := by rw [← hL]; exact fput_len fs
  obtain ⟨ln, hln⟩ : ∃ x, L.length = x := ⟨_, rfl⟩
  rw [hln] at hLb
  have CF := Lib.hid (rfput_any fs A c n w1 M1.out.r.ln M1.out.r.rf M1.out.r.bn M1.out.r.hs)
  unfold RetP at CF
  rw [hL, hE, hln] at CF
  have HPL : ltplain fs D = if E ≠ 0 then ([], E) else (ltpart 1 L ++ (if D.length = 0 then [] else ltpart 0 D), 0) := by unfold ltplain; rw [hL, hE]
  replace HPL := Lib.hid HPL
  clear hL hE h
  go_enter Tryd.func20, Tryd.ntmps20
  go_wp2_with fail
  rw [hw1.out]
  try rw [hg.out]
  refine CF.out.mono ?_
  rintro e w2 ⟨A2, c2, rfl, o2, b2⟩
  clear CF x0
  have M2 := Lib.hid (M1.out.below b2)
  have B2 := Lib.hid (b1.out.trans (b2.mono b1.out.size))
  have R2 := Lib.hid (Rd.of_own o2)
  clear M1 b1 b2 o2
  by_cases hE0 : E = 0
  · subst hE0
    replace HPL : Hid (ltplain fs D = (ltpart 1 L ++ (if D.length = 0 then [] else ltpart 0 D), 0)) := Lib.hid (by rw [HPL.out, if_neg (by simp)])
    have q1 : IntKind.u64.wrap (ln : Int) = (ln : Int) := by rw [IntKind.wrap_u64]; omega
    obtain ⟨w3, hw3⟩ : ∃ W, w2.alloc (.cells #[.int .u8 1] 5) = W := ⟨_, rfl⟩
    have b3 : Below w2.heap.size w2 w3 := by rw [← hw3]; exact (Below.refl _ w2).alloc (Nat.le_refl _) _
    have CP := Lib.hid (refput_any (ln : Int) [1] (some ⟨w2.heap.size, 0, none⟩) 1 w3 (by rw [← hw3]; exact Rd.fresh w2 (bv [1]) 5) (by simp) (by omega) (by omega))
    simp only [List.length_cons, List.length_nil, Nat.zero_add] at CP
    have M3 := Lib.hid (M2.out.below b3)
    have B3 := Lib.hid (B2.out.trans (b3.mono B2.out.size))
    have R3 := Lib.hid (R2.out.below b3)
    replace hw3 := Lib.hid hw3
    clear M2 B2 R2 b3
    go_wp2_with fail
    rw [hw3.out]
    refine CP.out.mono ?_
    rintro e w4 ⟨A4, c4, rfl, o4, b4⟩
    have hvl := vl_bd (ln : Int)
    obtain ⟨n4, hn4⟩ : ∃ n4, 1 + vl (ln : Int) = n4 := ⟨_, rfl⟩
    rw [hn4] at o4 ⊢
    have hP4 : Hid ([1] ++ vbytes (ln : Int) (vl (ln : Int)) = vput 1 ++ vput (ln : Int)) := Lib.hid (by rw [vput_one]; rfl)
    rw [hP4.out] at o4
    obtain ⟨P4, hP4e⟩ : ∃ P4, vput 1 ++ vput (ln : Int) = P4 := ⟨_, rfl⟩
    rw [hP4e] at o4
    have hP6 : Hid (P4 ++ L = ltpart 1 L) := Lib.hid (by unfold ltpart; rw [← hP4e, hln, List.append_assoc])
    have hn6 : Hid ((ltpart 1 L).length = n4 + ln) := Lib.hid (by
      rw [← hP6.out, List.length_append, hln, ← hP4e, List.length_append, vput_one, vput_length]
      simp only [List.length_cons, List.length_nil]
      omega)
    replace hP4 := Lib.hid hP4e
    replace hln := Lib.hid hln
    have hn4b : n4 ≤ 9 := by omega
    replace hn4 := Lib.hid hn4
    have o5 := Lib.hid o4
    have b5 := Lib.hid b4
    have R4 := Lib.hid (R3.out.below b4)
    have hD := M3.out.r.lm
    clear hP4e o4 b4 CP hw3 q1 hvl
    obtain ⟨P6, hP6e⟩ : ∃ P6, ltpart 1 L = P6 := ⟨_, rfl⟩
    obtain ⟨n6, hn6e⟩ : ∃ n6, n4 + ln = n6 := ⟨_, rfl⟩
    have fin : Hid (∀ (Q : List UInt8) (e : Ending) (V : World) (X : Option Addr) (k x : Nat), ltplain fs D = (Q, 0) → Q.length = k → e = .returned (.tuple #[.slice X k x, .int .i64 0]) → V.ownsRow w3.heap.size 5 1 (.slice X k x) k (bv Q) → Below w3.heap.size w3 V → RetP w (ltplain fs D) e V) := Lib.hid (fun Q e V X k x h1 h2 h3 h4 h5 => by
      subst h2
      rw [h1]
      exact ⟨X, x, h3, own_base h4 (fun q hq => by have := (h4.lt q hq).1; have := B3.out.size; omega), B3.out.trans (h5.mono B3.out.size)⟩)
    rw [hP6e] at hn6 HPL hP6
    rw [hn6e] at hn6
    have hn6b : n6 ≤ 8100 := by omega
    replace hP6e := Lib.hid hP6e
    replace hn6e := Lib.hid hn6e
    by_cases hm0 : m = 0
    · have t1 : decide ((0 : Int) < (m : Int)) = false := decide_eq_false (by omega)
      have t1n : decide (0 < m) = false := decide_eq_false (by omega)
      have hV : Hid (ltplain fs D = (P6, 0)) := Lib.hid (by rw [HPL.out, if_pos (by omega), List.append_nil])
      replace hm0 := Lib.hid hm0
      go_wp2_with (at_builtin; refine wpList_app _ rfl _ _ 23 rfl w3.heap.size 5 (.int .u8 0) 1 infoB Tryd.underlying23 rfl (.slice A4 n4 c4) n4 (bv P4) rfl o5.out A2 ln c2 (bv L) rfl (by rw [bv_length]; exact hln.out) R4.out (bv_one _) (by have := hn6e.out; unfold maxLen; omega) (by have := hn6e.out; omega) b5.out.size ?_; intro A6 c6 w6 ho6 hg6 hx6; clear hx6; rw [← bv_append, hP6.out, hn6e.out] at ho6; have b6 := Lib.hid (Fr.under b5.out b5.out.size ((Fr.refl (fun q => (Value.slice A4 n4 c4).ownBlock = some q) w4).grown hg6 (fun _ hq _ => hq)) (fun q hq _ => (o5.out.lt q hq).1)); replace ho6 := Lib.hid ho6; have M6 := Lib.hid (M3.out.below b6.out); have x1 := M6.out.c1; clear hg6)
      go_ret2
      rw [hn6e.out]
      exact fin.out P6 _ _ A6 n6 c6 hV.out hn6.out rfl ho6.out b6.out
    · have t1 : decide ((0 : Int) < (m : Int)) = true := decide_eq_true (by omega)
      have t1n : decide (0 < m) = true := decide_eq_true (by omega)
      have hV : Hid (ltplain fs D = (P6 ++ ltpart 0 D, 0)) := Lib.hid (by rw [HPL.out, if_neg (by omega)])
      have q0 : IntKind.u64.wrap (m : Int) = (m : Int) := by rw [IntKind.wrap_u64]; omega
      obtain ⟨P7, hP7⟩ : ∃ P7, P6 ++ [0] = P7 := ⟨_, rfl⟩
      obtain ⟨n7, hn7⟩ : ∃ n7, n6 + 1 = n7 := ⟨_, rfl⟩
      obtain ⟨P8, hP8⟩ : ∃ P8, P7 ++ vput (m : Int) = P8 := ⟨_, rfl⟩
      obtain ⟨n8, hn8⟩ : ∃ n8, n7 + vl (m : Int) = n8 := ⟨_, rfl⟩
      have hvlm := vl_bd (m : Int)
      have hl7 : P7.length = n7 := by rw [← hP7, List.length_append, hn6.out, ← hn7]; rfl
      have CQ : Hid (∀ V A' c', Rd V A' (bv P7) → Calls Tryd.prog 35 #[.slice A' n7 c', .int .u64 m] V (RetS 5 V n8 (bv P8))) := Lib.hid (fun V A' c' hV => by
        have h := refput_any (m : Int) P7 A' c' V hV (by omega) (by omega) (by omega)
        rw [hl7, hn8] at h
        rw [← hP8]
        exact h)
      have hn8b : n8 ≤ 8200 := by omega
      have h9 : Hid (P8 ++ D = P6 ++ ltpart 0 D) := Lib.hid (by
        rw [← hP8, ← hP7]; unfold ltpart; rw [vput_nul, hD]; simp)
      have h9l : Hid ((P6 ++ ltpart 0 D).length = n8 + m) := Lib.hid (by
        rw [← h9.out, List.length_append, hD, ← hP8, List.length_append, hl7, vput_length, hn8])
      replace hP7 := Lib.hid hP7
      replace hn7 := Lib.hid hn7
      replace hP8 := Lib.hid hP8
      replace hn8 := Lib.hid hn8
      replace hl7 := Lib.hid hl7
      clear hvlm
      have hdm := hD
      replace hD := Lib.hid hD
      go_upto_region 6 with (at_builtin; refine wpList_app _ rfl _ _ 23 rfl w3.heap.size 5 (.int .u8 0) 1 infoB Tryd.underlying23 rfl (.slice A4 n4 c4) n4 (bv P4) rfl o5.out A2 ln c2 (bv L) rfl (by rw [bv_length]; exact hln.out) R4.out (bv_one _) (by have := hn6e.out; unfold maxLen; omega) (by have := hn6e.out; omega) b5.out.size ?_; intro A6 c6 w6 ho6 hg6 hx6; clear hx6; rw [← bv_append, hP6.out, hn6e.out] at ho6; have b6 := Lib.hid (Fr.under b5.out b5.out.size ((Fr.refl (fun q => (Value.slice A4 n4 c4).ownBlock = some q) w4).grown hg6 (fun _ hq _ => hq)) (fun q hq _ => (o5.out.lt q hq).1)); replace ho6 := Lib.hid ho6; have M6 := Lib.hid (M3.out.below b6.out); have x1 := M6.out.c1; clear hg6)
      rw [hn6e.out]
      have HO : Hid (∀ o, (w6.alloc o).drew.ownsRow w3.heap.size 5 1 (.slice A6 n6 c6) n6 (bv P6)) := Lib.hid (fun o => (Still.drew _).own (ho6.out.alloc o))
      have HB : Hid (∀ o, Below w3.heap.size w3 (w6.alloc o).drew) := Lib.hid (fun o => (((Fr.of_below b6.out NoS).alloc o).drew).below)
      have HRd : Hid (Rd (w6.alloc (.cells #[.int .u8 0] 5)).drew (some ⟨w6.heap.size, 0, none⟩) (bv [0])) := Lib.hid ((Rd.fresh_to (by rfl) (bv [0]) _ _).drew)
      have HSB : Hid (∀ V, Below w3.heap.size w3 V → V.cell? ⟨g, 1, none⟩ = some (.slice B m d)) := Lib.hid (fun V bV => (M3.out.below bV).c1)
      refine wp_region_held_drew (S := fun V => V.cell? ⟨g, 1, none⟩ = some (.slice B m d)) (by kernel_rfl) (by first | assumption | go_keep) (fun hHeld => ?_)
      refine wpAnyH_take (i := 0) (v := ?_) rfl (by kernel_rfl) (by kernel_rfl) (by kernel_rfl) (fun _ _ _ h => h) (Or.inl ⟨by rfl, ?_⟩) (by assumption) ?_
      rotate_left 1
      · (intro w hSw; (try dsimp only at hSw); (try go_split_ands); go_simp; try with_reducible rfl)
      try simp only [Act.put, List.setIfInBounds_toArray, List.set_cons_zero, List.set_cons_succ, List.getElem_toArray, List.getElem_cons_zero, List.getElem_cons_succ]
      refine wpAnyH_take (i := 3) (v := ?_) rfl (by kernel_rfl) (by kernel_rfl) (by kernel_rfl) (fun _ _ _ h => h) (Or.inl ⟨by rfl, ?_⟩) (by assumption) ?_
      rotate_left 1
      · (intro w hSw; (try dsimp only at hSw); (try go_split_ands); go_simp; try with_reducible rfl)
      try simp only [Act.put, List.setIfInBounds_toArray, List.set_cons_zero, List.set_cons_succ, List.getElem_toArray, List.getElem_cons_zero, List.getElem_cons_succ]
      refine wpAnyH_take (i := 4) (v := ?_) rfl (by kernel_rfl) (by kernel_rfl) (by kernel_rfl) (fun _ _ _ h => h) (Or.inl ⟨by rfl, ?_⟩) (by assumption) ?_
      rotate_left 1
      · (intro w hSw; (try dsimp only at hSw); (try go_split_ands); go_simp; try with_reducible rfl)
      try simp only [Act.put, List.setIfInBounds_toArray, List.set_cons_zero, List.set_cons_succ, List.getElem_toArray, List.getElem_cons_zero, List.getElem_cons_succ]
      refine wpAnyH_take (i := 5) (v := ?_) rfl (by kernel_rfl) (by kernel_rfl) (by kernel_rfl) (fun _ _ _ h => h) (Or.inl ⟨by rfl, ?_⟩) (by assumption) ?_
      rotate_left 1
      · (intro w hSw; (try dsimp only at hSw); (try go_split_ands); go_simp; try with_reducible rfl)
      try simp only [Act.put, List.setIfInBounds_toArray, List.set_cons_zero, List.set_cons_succ, List.getElem_toArray, List.getElem_cons_zero, List.getElem_cons_succ]
      refine wpAnyH_take (i := 6) (v := ?_) rfl (by kernel_rfl) (by kernel_rfl) (by kernel_rfl) (fun _ _ _ h => h) (Or.inl ⟨by rfl, ?_⟩) (by assumption) ?_
      rotate_left 1
      · (intro w hSw; (try dsimp only at hSw); (try go_split_ands); go_simp; try with_reducible rfl)
      try simp only [Act.put, List.setIfInBounds_toArray, List.set_cons_zero, List.set_cons_succ, List.getElem_toArray, List.getElem_cons_zero, List.getElem_cons_succ]
      refine wpAnyH_take (i := 8) (v := ?_) rfl (by kernel_rfl) (by kernel_rfl) (by kernel_rfl) (fun _ _ _ h => h) (Or.inl ⟨by rfl, ?_⟩) (by assumption) ?_
      rotate_left 1
      · (intro w hSw; (try dsimp only at hSw); (try go_split_ands); go_simp; try with_reducible rfl)
      try simp only [Act.put, List.setIfInBounds_toArray, List.set_cons_zero, List.set_cons_succ, List.getElem_toArray, List.getElem_cons_zero, List.getElem_cons_succ]
      refine wpAnyH_take (i := 9) (v := ?_) rfl (by kernel_rfl) (by kernel_rfl) (by kernel_rfl) (fun _ _ _ h => h) (Or.inl ⟨by rfl, ?_⟩) (by assumption) ?_
      rotate_left 1
      · (intro w hSw; (try dsimp only at hSw); (try go_split_ands); go_simp; try with_reducible rfl)
      try simp only [Act.put, List.setIfInBounds_toArray, List.set_cons_zero, List.set_cons_succ, List.getElem_toArray, List.getElem_cons_zero, List.getElem_cons_succ]
      refine wpAnyH_ready (rs := [1]) (by kernel_rfl) (by simp) ?_
      refine AllReadyH.cons rfl (fun K hK => ?_) AllReadyH.nil
      (go_simp)
      refine hK.out _ _ (HSB.out _ (HB.out _)) (fun hHeld => ?_)
      clear hK K
      try simp only [Act.put, List.setIfInBounds_toArray, List.set_cons_zero, List.set_cons_succ, List.getElem_toArray, List.getElem_cons_zero, List.getElem_cons_succ]
      refine wpAnyH_ready (rs := [2]) (by kernel_rfl) (by simp) ?_
      refine AllReadyH.cons rfl (fun K hK => ?_) AllReadyH.nil
      refine step_app rfl _ _ 23 rfl w3.heap.size 5 (.int .u8 0) 1 infoB Tryd.underlying23 rfl (.slice A6 n6 c6) n6 (bv P6) rfl (HO.out _) (some ⟨w6.heap.size, 0, none⟩) 1 1 (bv [0]) rfl rfl HRd.out (bv_one _) (by unfold maxLen; omega) (by omega) (HB.out _).size ?_
      intro A7 c7 w7 ho7 hg7 _
      have b7 : Below w3.heap.size w3 w7 := Fr.under (HB.out _) (HB.out _).size ((Fr.refl (fun q => (Value.slice A6 n6 c6).ownBlock = some q) _).grown hg7 (fun _ hq _ => hq)) (fun q hq _ => ((HO.out (.cells #[.int .u8 0] 5)).lt q hq).1)
      rw [← bv_append, hP7.out, hn7.out] at ho7
      rw [hn7.out]
      replace ho7 := Lib.hid ho7
      clear hg7
      refine hK.out _ _ (HSB.out _ b7) (fun hHeld => ?_)
      clear hK K
      try simp only [Act.put, List.setIfInBounds_toArray, List.set_cons_zero, List.set_cons_succ, List.getElem_toArray, List.getElem_cons_zero, List.getElem_cons_succ]
      refine wpAnyH_ready (rs := [7]) (by kernel_rfl) (by simp) ?_
      refine AllReadyH.cons rfl (fun K hK => ?_) AllReadyH.nil
      go_simp
      go_at_call 35
      refine (CQ.out w7 A7 c7 (Rd.of_own ho7.out)).mono ?_
      rintro e w8 ⟨A8, c8, rfl, o8, b8⟩
      replace b8 : Below w3.heap.size w3 w8 := b7.trans (b8.mono b7.size)
      replace o8 := Lib.hid (own_base (base2 := w3.heap.size) o8 (fun q hq => by have := (o8.lt q hq).1; have := b7.size; omega))
      refine hK.out _ _ (HSB.out _ b8) (fun hHeld => ?_)
      clear hK K
      try simp only [Act.put, List.setIfInBounds_toArray, List.set_cons_zero, List.set_cons_succ, List.getElem_toArray, List.getElem_cons_zero, List.getElem_cons_succ]
      refine wpAnyH_ready (rs := [10]) (by kernel_rfl) (by simp) ?_
      refine AllReadyH.cons rfl (fun K hK => ?_) AllReadyH.nil
      refine step_app rfl _ _ 23 rfl w3.heap.size 5 (.int .u8 0) 1 infoB Tryd.underlying23 rfl (.slice A8 n8 c8) n8 (bv P8) rfl o8.out B m d (bv D) rfl (by rw [bv_length]; exact hD.out) (M3.out.below b8).r.rb (bv_one _) (by unfold maxLen; omega) (by omega) b8.size ?_
      intro A9 c9 w9 ho9 hg9 _
      have b9 : Below w3.heap.size w3 w9 := Fr.under b8 b8.size ((Fr.refl (fun q => (Value.slice A8 n8 c8).ownBlock = some q) _).grown hg9 (fun _ hq _ => hq)) (fun q hq _ => (o8.out.lt q hq).1)
      rw [← bv_append, h9.out] at ho9
      replace ho9 := Lib.hid ho9
      replace b9 := Lib.hid b9
      clear hg9
      refine hK.out _ _ (HSB.out _ b9.out) (fun hHeld => ?_)
      clear hK K
      try simp only [Act.put, List.setIfInBounds_toArray, List.set_cons_zero, List.set_cons_succ, List.getElem_toArray, List.getElem_cons_zero, List.getElem_cons_succ]
      refine wpAnyH_take (i := 11) (v := ?_) rfl (by kernel_rfl) (by kernel_rfl) (by kernel_rfl) (fun _ _ _ h => h) (Or.inl ⟨by rfl, ?_⟩) (by assumption) ?_
      rotate_left 1
      · (intro w hSw; (try dsimp only at hSw); (try go_split_ands); go_simp; try with_reducible rfl)
      try simp only [Act.put, List.setIfInBounds_toArray, List.set_cons_zero, List.set_cons_succ, List.getElem_toArray, List.getElem_cons_zero, List.getElem_cons_succ]
      refine wpAnyH_done (by kernel_rfl) ?_ _
      clear hHeld
      go_wp2_with fail
      go_ret2
      exact fin.out _ _ _ A9 (n8 + m) c9 hV.out h9l.out rfl ho9.out b9.out
  · have hV : Hid (ltplain fs D = ([], E)) := Lib.hid (by rw [HPL.out, if_pos hE0])
    have t0 : (E != 0) = true := by simpa using hE0
    replace hE0 := Lib.hid hE0
    clear HPL
    go_wp2_with fail
    go_ret2
    rw [hV.out]
    exact ⟨none, 0, rfl, World.ownsRow_nil _ _ _ _, B2.out⟩
end Go.Proofs.YtdldipkbknhhoaaDoor

/- The document's letter.Get: its walk. (Printed by gen_ltT.py.) -/
namespace Go.Proofs.YtdldipkbknhhoaaDoor
open Go.RowKit
set_option maxRecDepth 100000 in
set_option maxHeartbeats 8000000 in
theorem rltget_any (l : List UInt8) (A : Option Addr) (n c : Nat) (w : World) (hn : l.length = n) (hr : Rd w A (bv l)) (hc : n ≤ c) (hcc : c ≤ 9223372036854775807) (hl : n ≤ 1000000) :
    Calls Tryd.prog 15 #[.slice A n c] w (RetM w (lget l)) := by
  obtain ⟨v, hv⟩ : ∃ x, bok (n : Int) = x := ⟨_, rfl⟩
  have CB : Hid (∀ W, Calls Tryd.prog 13 #[.int .i64 (n : Int)] W fun e w' => e = .returned (.bool v) ∧ W = w') := Lib.hid (fun W => by rw [← hv]; exact refbucket_any n W)
  have hbo : Hid (bok (l.length : Int) = v) := Lib.hid (by rw [hn]; exact hv)
  replace hr := Lib.hid hr
  replace hn := Lib.hid hn
  clear hv
  obtain ⟨g, hg⟩ : ∃ g, w.heap.size = g := ⟨_, rfl⟩
  obtain ⟨wa, hwa⟩ : ∃ wa, w.alloc (.cells #[.slice none 0 0, .slice none 0 0] 25) = wa := ⟨_, rfl⟩
  have X0 : Hid (wa.heap[g]? = some (.cells #[.slice none 0 0, .slice none 0 0] 25 (0, 0))) := Lib.hid (by rw [← hwa, ← hg]; exact heap_alloc_new w _)
  have ba : Hid (Below w.heap.size w wa) := Lib.hid (by rw [← hwa]; exact (Below.refl _ w).alloc (Nat.le_refl _) _)
  have hsz : Hid (wa.heap.size = g + 1) := Lib.hid (by rw [← hwa, ← hg]; simp)
  go_enter Tryd.func15, Tryd.ntmps15
  go_wp2_with fail
  try rw [hwa]
  try rw [hg]
  refine (CB.out _).mono ?_
  rintro e w' ⟨rfl, rfl⟩
  clear CB hwa
  cases v with
  | false =>
    have hV : Hid (lget l = (([], []), 13)) := Lib.hid (lget_bucket l hbo.out)
    clear hr hn
    have y0 := wrote_cell X0.out 0 _ rfl
    have y1 := wrote_cell X0.out 1 _ rfl
    have f0 := frozen_of_row wa g 0 _ _ X0.out
    have f1 := frozen_of_row wa g 1 _ _ X0.out
    go_wp2_with fail
    obtain ⟨e1, _, e2⟩ := end0 X0.out ba.out hg (.slice none 0 0) (.slice none 0 0)
    refine bodyPost_ret (v := .tuple #[.agg #[.slice none 0 0, .slice none 0 0], .int .i64 13]) (res_ct rfl _ _ ⟨g, 0, none⟩ _ rfl (loadM e1 ⟨_, _, _, rfl⟩ ⟨_, _, _, rfl⟩) rfl) rfl ?_
    rw [hV.out]
    exact ⟨none, 0, none, 0, rfl, World.ownsRow_nil _ _ _ _, World.ownsRow_nil _ _ _ _, e2⟩
  | true =>
    have hnb := bok_bd hbo.out
    rw [hn.out] at hnb
    have hn1024 : n ≤ 1024 := by omega
    have hn256 : 256 ≤ n := by omega
    have hln : Hid (l ≠ []) := Lib.hid (fun e => by have := hn.out; rw [e] at this; simp at this; omega)
    clear hnb
    obtain ⟨wc, hwc⟩ : ∃ wc, wa.alloc (.cells #[.slice none 0 0, .slice none 0 0] 25) = wc := ⟨_, rfl⟩
    have H0 : Hid (RM w g (g + 1) wc none 0 0 [] none 0 0 []) := Lib.hid (by
      have hs := hsz.out
      have b1 : Below w.heap.size w wc := by rw [← hwc]; exact ba.out.alloc ba.out.size _
      have F1 : Fr NoS wa wc := by rw [← hwc]; exact (Fr.refl NoS wa).alloc _
      refine ⟨heap_fr X0.out F1 (fun x => x), ?_, World.ownsRow_nil _ _ _ _, rfl, World.ownsRow_nil _ _ _ _, rfl, b1, hg, rfl, (fun k hk => by cases hk), (fun k hk => by cases hk), by omega⟩
      have h1 := heap_alloc_new wa (.cells #[.slice none 0 0, .slice none 0 0] 25)
      rw [hs] at h1
      rw [← hwc]
      exact h1)
    replace hwc := Lib.hid hwc
    have hs1 := hsz.out
    obtain ⟨q, hq⟩ : ∃ q, g + 1 = q := ⟨_, rfl⟩
    rw [hq] at H0 hs1
    replace hq := Lib.hid hq
    go_wp2_with fail
    try rw [hwc.out]
    clear hwc X0 ba hs1 hsz
    go_wp2_with fail
    go_loopw [0, 5, 6] (fun b ls i W => ∃ (kk : Nat) (Ar : Option Addr) (nr cr : Nat) (rest : List UInt8) (AL : Option Addr) (nL cL : Nat) (L : List UInt8) (Ab : Option Addr) (nb cb : Nat) (bod : List UInt8), b = .slice Ar nr cr ∧ ls = .slice AL nL cL ∧ i = .int .i64 kk ∧ kk + nr ≤ n ∧ nr ≤ cr ∧ cr ≤ 9223372036854775807 ∧ Hid (Rd w Ar (bv rest) ∧ rest.length = nr) ∧ Hid (RM w g q W Ab nb cb bod AL nL cL L) ∧ Hid (RG l kk rest L bod)) (fun _ _ i _ => 2000 - (intOf i).toNat)
    case atStart => exact ⟨0, A, n, c, l, none, 0, 0, [], none, 0, 0, [], rfl, rfl, rfl, by omega, hc, hcc, Lib.hid ⟨hr.out, hn.out⟩, H0, Lib.hid (.inl ⟨rfl, rfl, rfl⟩)⟩
    case round =>
      clear H0
      obtain ⟨kk, Ar, nr, cr, rest, AL, nL, cL, L, Ab, nb, cb, bod, rfl, rfl, rfl, hkk, hnc, hccr, HR, M, HG⟩ := hrel
      by_cases h0 : nr = 0
      · have d0 : decide ((0 : Int) < (nr : Int)) = false := decide_eq_false (by omega)
        have d0n : decide (0 < nr) = false := decide_eq_false (by omega)
        have hr0 : rest = [] := List.eq_nil_of_length_eq_zero (by rw [HR.out.2]; exact h0)
        replace h0 := Lib.hid h0
        subst hr0
        have hV0 : Hid (lget l = if (fget L).2 ≠ 0 then (([], []), (fget L).2) else (((fget L).1, bod), 0)) := Lib.hid (HG.out.fin hln.out)
        have hcl := RetS.cap M.out.ol
        have CF := Lib.hid (rfget_any L AL cL nL wr M.out.ll (Rd.of_own M.out.ol) hcl.1 hcl.2 M.out.sm)
        unfold RetG at CF
        obtain ⟨LF, hL⟩ : ∃ LF, (fget L).1 = LF := ⟨_, rfl⟩
        obtain ⟨E, hE⟩ : ∃ E, (fget L).2 = E := ⟨_, rfl⟩
        rw [hL, hE] at CF hV0
        clear hL hE HG hcl
        go_wp2_with fail
        refine CF.out.mono ?_
        rintro e w4 ⟨Af, cf, rfl, o4, b4⟩
        clear CF
        have M2 := Lib.hid (M.out.below b4)
        by_cases hE0 : E = 0
        · subst hE0
          have hV : Hid (lget l = ((LF, bod), 0)) := Lib.hid (by rw [hV0.out, if_neg (by decide)])
          clear hV0
          have bE : ((0 : Int) != 0) = false := rfl
          have y0 := wrote_cell M2.out.msg 0 _ rfl
          have f0 := frozen_of_row w4 q 0 _ _ M2.out.msg
          obtain ⟨w5, hw5⟩ : ∃ w5, w4.setCell ⟨q, 0, none⟩ (.slice Af LF.length cf) = w5 := ⟨_, rfl⟩
          have h1 := M2.out.hg
          have h2 := M2.out.hq
          have h3 := M.out.qlt
          have h4 := M.out.bel.size
          have F : Fr (fun k => k = q) w4 w5 := by rw [← hw5]; exact (Fr.refl (fun k => k = q) w4).setCell (p := ⟨q, 0, none⟩) (fun _ => rfl) _
          have m5 : w5.heap[q]? = some (.cells #[.slice Af LF.length cf, .slice Ab nb cb] 25 (0, 0)) := by rw [← hw5]; exact heap_setCell_same _ q 0 _ _ _ M2.out.msg
          have r5 := heap_fr M2.out.res F (fun e => by omega)
          have b5 : Below w.heap.size w w5 := Fr.under M2.out.bel M2.out.bel.size F (fun k hk _ => by omega)
          have of5 := own_fr (own_base (base2 := w.heap.size) o4 (fun k hk => by have := (o4.lt k hk).1; omega)) F (fun k hk e => by have := (o4.lt k hk).1; omega)
          have ob5 := own_fr M2.out.ob F (fun k hk e => by have := M2.out.npb k hk; omega)
          have z0 := wrote_cell m5 0 _ rfl
          have z1 := wrote_cell m5 1 _ rfl
          have x0' := wrote_cell r5 0 _ rfl
          have x1' := wrote_cell r5 1 _ rfl
          have k0 := frozen_of_row w5 g 0 _ _ r5
          have k1 := frozen_of_row w5 g 1 _ _ r5
          have EN := Lib.hid (end0 r5 b5 hg (.slice Af LF.length cf) (.slice Ab nb cb))
          have hlb := Lib.hid M2.out.lb
          have gA : Hid (∀ k, (Value.slice Af LF.length cf).ownBlock = some k → k ≠ g) := Lib.hid (fun k hk => by have := (o4.lt k hk).1; omega)
          have gB : Hid (∀ k, (Value.slice Ab nb cb).ownBlock = some k → k ≠ g) := Lib.hid (fun k hk => by have := M2.out.npb k hk; omega)
          replace of5 := Lib.hid of5
          replace ob5 := Lib.hid ob5
          clear F m5 r5 b5 M M2 o4 b4 h1 h2 h3 h4
          subst hw5
          go_wp2_with fail
          obtain ⟨e1, eF, e2⟩ := EN.out
          refine bodyPost_ret (v := .tuple #[.agg #[.slice Af LF.length cf, .slice Ab nb cb], .int .i64 0]) (res_ct rfl _ _ ⟨g, 0, none⟩ _ rfl (loadM e1 ⟨_, _, _, rfl⟩ ⟨_, _, _, rfl⟩) rfl) rfl ?_
          rw [hV.out]
          have e3 := own_fr ob5.out eF (fun k hk e => gB.out k hk e)
          have hl9 := hlb.out
          subst hl9
          exact ⟨Af, cf, Ab, cb, rfl, own_fr of5.out eF (fun k hk e => gA.out k hk e), e3, e2⟩
        · have hV : Hid (lget l = (([], []), E)) := Lib.hid (by rw [hV0.out, if_pos hE0])
          clear hV0
          have bE : (E != 0) = true := by simpa using hE0
          replace hE0 := Lib.hid hE0
          have y0 := wrote_cell M2.out.res 0 _ rfl
          have y1 := wrote_cell M2.out.res 1 _ rfl
          have f0 := frozen_of_row w4 g 0 _ _ M2.out.res
          have f1 := frozen_of_row w4 g 1 _ _ M2.out.res
          clear M o4 b4
          go_wp2_with fail
          obtain ⟨e1, _, e2⟩ := end0 M2.out.res M2.out.bel hg (.slice none 0 0) (.slice none 0 0)
          refine bodyPost_ret (v := .tuple #[.agg #[.slice none 0 0, .slice none 0 0], .int .i64 E]) (res_ct rfl _ _ ⟨g, 0, none⟩ _ rfl (loadM e1 ⟨_, _, _, rfl⟩ ⟨_, _, _, rfl⟩) rfl) rfl ?_
          rw [hV.out]
          exact ⟨none, 0, none, 0, rfl, World.ownsRow_nil _ _ _ _, World.ownsRow_nil _ _ _ _, e2⟩
      · rename_i aa
        clear aa
        have d0 : decide ((0 : Int) < (nr : Int)) = true := decide_eq_true (by omega)
        have d0n : decide (0 < nr) = true := decide_eq_true (by omega)
        have hne : Hid (rest ≠ []) := Lib.hid (fun e => by have := HR.out.2; rw [e] at this; exact h0 this.symm)
        have HRd : Hid (Rd wr Ar (bv rest)) := Lib.hid (HR.out.1.below M.out.bel)
        have G1 := Lib.hid (refget_any rest Ar cr wr HRd.out (by rw [HR.out.2]; exact hnc) (by rw [HR.out.2]; omega) hccr)
        rw [HR.out.2] at G1
        obtain ⟨k1, hk1⟩ : ∃ x, (vget rest).1 = x := ⟨_, rfl⟩
        obtain ⟨mi, hmi⟩ : ∃ x, (vget rest).2.1 = x := ⟨_, rfl⟩
        obtain ⟨e1, he1⟩ : ∃ x, (vget rest).2.2 = x := ⟨_, rfl⟩
        have bd1 := vget_bd rest
        unfold vtup at G1
        rw [hk1, hmi, he1] at G1
        rw [hk1, hmi, he1, HR.out.2] at bd1
        by_cases h1 : e1 = 0
        · have hb := bd1 h1
          obtain ⟨m, rfl⟩ := Int.eq_ofNat_of_zero_le (show 0 ≤ mi by omega)
          obtain ⟨X1, hX1, hc1⟩ := cut_l (P := Tryd.prog) Tryd.underlying23 infoB Ar nr cr m (by omega) hnc
          obtain ⟨n1, hn1⟩ : ∃ n1, n1 = nr - m := ⟨_, rfl⟩
          obtain ⟨c1, hc1e⟩ : ∃ c1, c1 = cr - m := ⟨_, rfl⟩
          rw [← hn1, ← hc1e] at hX1
          have hR1 : Hid (Rd wr X1 (bv (rest.drop m))) := Lib.hid (hc1.bytes' HRd.out HR.out.2 hnc)
          have hl1 : Hid ((rest.drop m).length = n1) := Lib.hid (by rw [List.length_drop, HR.out.2]; omega)
          have G2 := Lib.hid (refget_any (rest.drop m) X1 c1 wr hR1.out (by rw [hl1.out]; omega) (by rw [hl1.out]; omega) (by omega))
          rw [hl1.out] at G2
          have bd2 := vget_bd (rest.drop m)
          obtain ⟨LI, hLI⟩ : ∃ x, (vget (rest.drop m)).1 = x := ⟨_, rfl⟩
          obtain ⟨qi, hqi⟩ : ∃ x, (vget (rest.drop m)).2.1 = x := ⟨_, rfl⟩
          obtain ⟨e2, he2⟩ : ∃ x, (vget (rest.drop m)).2.2 = x := ⟨_, rfl⟩
          unfold vtup at G2
          rw [hLI, hqi, he2] at G2
          rw [hLI, hqi, he2, hl1.out] at bd2
          have hr1w : Hid (∀ x, X1 = some x → ∃ y, Ar = some y ∧ y.block = x.block) := Lib.hid hc1.blk
          have hRw1 : Hid (Rd w X1 (bv (rest.drop m))) := Lib.hid (hc1.bytes' HR.out.1 HR.out.2 hnc)
          subst h1
          have d1 : ((0 : Int) != 0) = false := rfl
          replace hmi := Lib.hid hmi
          replace he1 := Lib.hid he1
          replace hk1 := Lib.hid hk1
          clear hc1 bd1
          by_cases h2 : e2 = 0
          · have hb2 := bd2 h2
            obtain ⟨qq, rfl⟩ := Int.eq_ofNat_of_zero_le (show 0 ≤ qi by omega)
            obtain ⟨dl, rfl⟩ := Int.eq_ofNat_of_zero_le (show 0 ≤ LI by omega)
            obtain ⟨R, hR⟩ : ∃ R : Nat, R = n1 - qq := ⟨_, rfl⟩
            have hw2 : IntKind.i64.wrap ((n1 : Int) - (qq : Int)) = (R : Int) := by rw [IntKind.wrap_i64]; omega
            have hw3 : IntKind.u64.wrap (R : Int) = (R : Int) := by rw [IntKind.wrap_u64]; omega
            subst h2
            replace hLI := Lib.hid hLI
            replace hqi := Lib.hid hqi
            replace he2 := Lib.hid he2
            clear bd2
            by_cases h3 : R < dl
            · have d3 : decide ((R : Int) < (dl : Int)) = true := decide_eq_true (by omega)
              have d3n : decide (R < dl) = true := decide_eq_true h3
              have hV : Hid (lget l = (([], []), 5)) := Lib.hid (HG.out.none hbo.out (by omega) hne.out (lrd_e2 he1.out hmi.out (by rw [HR.out.2]; omega) (.inr (by rw [hl1.out, hqi.out, hLI.out]; omega))))
              have y0 := wrote_cell M.out.res 0 _ rfl
              have y1 := wrote_cell M.out.res 1 _ rfl
              have f0 := frozen_of_row wr g 0 _ _ M.out.res
              have f1 := frozen_of_row wr g 1 _ _ M.out.res
              clear HG hb hb2 h3 hR hn1 hc1e hnc hccr hkk h0
              go_wp2_with fail
              refine G1.out.mono ?_
              rintro e w' ⟨rfl, rfl⟩
              clear G1
              go_wp2_with fail
              refine G2.out.mono ?_
              rintro e w' ⟨rfl, rfl⟩
              clear G2
              go_wp2_with fail
              obtain ⟨e1, _, e2⟩ := end0 M.out.res M.out.bel hg (.slice none 0 0) (.slice none 0 0)
              refine bodyPost_ret (v := .tuple #[.agg #[.slice none 0 0, .slice none 0 0], .int .i64 5]) (res_ct rfl _ _ ⟨g, 0, none⟩ _ rfl (loadM e1 ⟨_, _, _, rfl⟩ ⟨_, _, _, rfl⟩) rfl) rfl ?_
              rw [hV.out]
              exact ⟨none, 0, none, 0, rfl, World.ownsRow_nil _ _ _ _, World.ownsRow_nil _ _ _ _, e2⟩
            · have d3 : decide ((R : Int) < (dl : Int)) = false := decide_eq_false (by omega)
              have d3n : decide (R < dl) = false := decide_eq_false h3
              obtain ⟨T, hT⟩ : ∃ T : Nat, T = qq + dl := ⟨_, rfl⟩
              have hw5 : IntKind.i64.wrap (dl : Int) = (dl : Int) := by rw [IntKind.wrap_i64]; omega
              have hw6 : IntKind.i64.wrap ((qq : Int) + (dl : Int)) = (T : Int) := by rw [IntKind.wrap_i64]; omega
              obtain ⟨X2, hX2, hc2⟩ := cut_lh (P := Tryd.prog) Tryd.underlying23 infoB X1 n1 c1 qq T (by omega) (by omega)
              obtain ⟨X3, hX3, hc3⟩ := cut_l (P := Tryd.prog) Tryd.underlying23 infoB X1 n1 c1 T (by omega) (by omega)
              obtain ⟨d, hd⟩ : ∃ d, ((rest.drop m).drop qq).take dl = d := ⟨_, rfl⟩
              obtain ⟨r, hrr⟩ : ∃ r, (rest.drop m).drop T = r := ⟨_, rfl⟩
              have hlrd : Hid (lrd rest = some (k1, d, r)) := Lib.hid (by rw [lrd_ok (m := m) (q := qq) (L := dl) he1.out hmi.out (by rw [HR.out.2]; omega) he2.out hqi.out hLI.out (by rw [hl1.out]; omega), hk1.out, hd, ← hT, hrr])
              have hR2 : Hid (Rd wr X2 (bv d)) := Lib.hid (by
                have := hc2.bytes hR1.out (by rw [hl1.out]; omega) (by rw [hl1.out]; omega)
                rw [show T - qq = dl from by omega, hd] at this
                exact this)
              have hR3 : Hid (Rd w X3 (bv r)) := Lib.hid (by
                have := hc3.bytes' hRw1.out hl1.out (by omega)
                rwa [hrr] at this)
              have hdl : Hid (d.length = dl) := Lib.hid (by rw [← hd, List.length_take, List.length_drop, hl1.out]; omega)
              obtain ⟨n3, hn3⟩ : ∃ n3, n3 = n1 - T := ⟨_, rfl⟩
              obtain ⟨c3, hc3e⟩ : ∃ c3, c3 = c1 - T := ⟨_, rfl⟩
              rw [← hn3, ← hc3e] at hX3
              have hrl : Hid (r.length = n3) := Lib.hid (by rw [← hrr, List.length_drop, hl1.out]; omega)
              obtain ⟨cX, hcX⟩ : ∃ cX, cX = c1 - qq := ⟨_, rfl⟩
              have hTq : T - qq = dl := by omega
              rw [hTq, ← hcX] at hX2
              have hnum : kk + 1 + n3 ≤ n ∧ n3 ≤ c3 ∧ c3 ≤ 9223372036854775807 ∧ dl ≤ 1000000 ∧ dl ≤ cX ∧ kk ≤ 1024 := by omega
              clear hTq hc2 hc3 hd hrr hR hT hn3 hc3e hcX hn1 hc1e hb hb2 h3 hLI hqi he2 he1 hk1 hmi hR1 hl1 hRw1 hr1w HRd HR h0 hkk
              obtain ⟨hk2, hn3c, hc3c, hdl6, hdc, hk1024⟩ := hnum
              by_cases hk0 : kk = 0
              · subst hk0
                have t0 : (((0 : Nat) : Int) == 0) = true := rfl
                by_cases hk1 : k1 = 1
                · have tk : (k1 == 1) = true := by rw [hk1]; rfl
                  have hG2 : Hid (RG l 1 r d bod) := Lib.hid (by
                    have hh := HG.out
                    rcases hh with ⟨_, e1, e2⟩ | ⟨h, _⟩
                    · subst e1 e2
                      have h9 := hlrd.out
                      rw [hk1] at h9
                      exact RG.first (L := L) (bod := []) (.inl ⟨rfl, rfl, rfl⟩) hbo.out h9
                    · omega)
                  replace hk1 := Lib.hid hk1
                  clear HG hlrd
                  go_wp2_with fail
                  refine G1.out.mono ?_
                  rintro e w' ⟨rfl, rfl⟩
                  clear G1
                  go_wp2_with fail
                  refine G2.out.mono ?_
                  rintro e w' ⟨rfl, rfl⟩
                  clear G2
                  go_wp2_with (at_builtin; refine wpList_app _ rfl _ _ 23 rfl wr.heap.size 5 (.int .u8 0) 1 infoB Tryd.underlying23 rfl (.slice none 0 0) 0 [] rfl (World.ownsRow_nil _ _ _ _) X2 dl cX (bv d) rfl (by rw [bv_length, hdl.out]) hR2.out (bv_one d) (by unfold maxLen; omega) (by omega) (Nat.le_refl _) ?_; intro A6 c6 w6 ho6 hg6 _)
                  have b6 : Below wr.heap.size wr w6 := (Below.refl _ _).grown hg6 (Nat.le_refl _) (by simp [Value.ownBlock])
                  replace ho6 : w6.ownsRow wr.heap.size 5 1 (.slice A6 dl c6) dl (bv d) := by simpa using ho6
                  have M2 := Lib.hid (M.out.list ho6 hdl.out b6 hdl6)
                  clear ho6 hg6 b6 M
                  go_roundw
                  case rel => exact ⟨1, X3, n3, c3, r, A6, dl, c6, d, Ab, nb, cb, bod, rfl, rfl, by go_num, by omega, hn3c, hc3c, Lib.hid ⟨hR3.out, hrl.out⟩, M2, hG2⟩
                  case measure => simp [intOf]
                · have tk : (k1 == 1) = false := beq_eq_false_iff_ne.2 hk1
                  have hV : Hid (lget l = (([], []), 5)) := Lib.hid (by
                    have hh := HG.out
                    rcases hh with ⟨_, e1, e2⟩ | ⟨h, _⟩
                    · subst e1
                      exact RG.first_no hbo.out hlrd.out hk1
                    · omega)
                  have y0 := wrote_cell M.out.res 0 _ rfl
                  have y1 := wrote_cell M.out.res 1 _ rfl
                  have f0 := frozen_of_row wr g 0 _ _ M.out.res
                  have f1 := frozen_of_row wr g 1 _ _ M.out.res
                  clear HG hlrd hk1
                  go_wp2_with fail
                  refine G1.out.mono ?_
                  rintro e w' ⟨rfl, rfl⟩
                  clear G1
                  go_wp2_with fail
                  refine G2.out.mono ?_
                  rintro e w' ⟨rfl, rfl⟩
                  clear G2
                  go_wp2_with fail
                  obtain ⟨e1, _, e2⟩ := end0 M.out.res M.out.bel hg (.slice none 0 0) (.slice none 0 0)
                  refine bodyPost_ret (v := .tuple #[.agg #[.slice none 0 0, .slice none 0 0], .int .i64 5]) (res_ct rfl _ _ ⟨g, 0, none⟩ _ rfl (loadM e1 ⟨_, _, _, rfl⟩ ⟨_, _, _, rfl⟩) rfl) rfl ?_
                  rw [hV.out]
                  exact ⟨none, 0, none, 0, rfl, World.ownsRow_nil _ _ _ _, World.ownsRow_nil _ _ _ _, e2⟩
              · have hkp : 1 ≤ kk := by omega
                have t0 : ((kk : Int) == 0) = false := beq_eq_false_iff_ne.2 (by omega)
                have tgt : decide ((0 : Int) < (kk : Int)) = true := decide_eq_true (by omega)
                have tgn : decide (0 < kk) = true := decide_eq_true hkp
                replace hk0 := Lib.hid hk0
                by_cases hkb : kk = 1 ∧ k1 = 0
                · obtain ⟨rfl, rfl⟩ := hkb
                  have hG2 : Hid (RG l 2 r L d) := Lib.hid (HG.out.body hne.out hlrd.out)
                  have y0 := wrote_cell M.out.msg 1 _ rfl
                  have y1 := frozen_of_row wr q 1 _ _ M.out.msg
                  have HC : Hid (∀ w6, wr.grownBy w6 (none : Option Nat) → w6.cell? ⟨q, 1, none⟩ = some (.slice Ab nb cb) ∧ w6.frozen? ⟨q, 1, none⟩ = false) := Lib.hid (fun w6 g6 => by
                    have b6 : Below wr.heap.size wr w6 := (Below.refl _ _).grown g6 (Nat.le_refl _) (by simp)
                    have h9 := (M.out.below b6).msg
                    exact ⟨wrote_cell h9 1 _ rfl, frozen_of_row w6 q 1 _ _ h9⟩)
                  clear HG hlrd
                  go_wp2_with fail
                  refine G1.out.mono ?_
                  rintro e w' ⟨rfl, rfl⟩
                  clear G1
                  go_wp2_with fail
                  refine G2.out.mono ?_
                  rintro e w' ⟨rfl, rfl⟩
                  clear G2
                  go_wp2_with (at_builtin; refine wpList_app _ rfl _ _ 23 rfl wr.heap.size 5 (.int .u8 0) 1 infoB Tryd.underlying23 rfl (.slice none 0 0) 0 [] rfl (World.ownsRow_nil _ _ _ _) X2 dl cX (bv d) rfl (by rw [bv_length, hdl.out]) hR2.out (bv_one d) (by unfold maxLen; omega) (by omega) (Nat.le_refl _) ?_; intro A6 c6 w6 ho6 hg6 _; obtain ⟨hz1, hz2⟩ := HC.out w6 (by simpa [Value.ownBlock] using hg6); replace ho6 := Lib.hid ho6; replace hg6 := Lib.hid hg6)
                  have b6 : Below wr.heap.size wr w6 := (Below.refl _ _).grown hg6.out (Nat.le_refl _) (by simp [Value.ownBlock])
                  have ho7 : w6.ownsRow wr.heap.size 5 1 (.slice A6 dl c6) dl (bv d) := by simpa using ho6.out
                  have M2 := Lib.hid (M.out.body ho7 hdl.out b6)
                  clear ho6 ho7 hg6 b6 M hz1 hz2 HC y0 y1
                  go_roundw
                  case rel => exact ⟨2, X3, n3, c3, r, AL, nL, cL, L, A6, dl, c6, d, rfl, rfl, by go_num, by omega, hn3c, hc3c, Lib.hid ⟨hR3.out, hrl.out⟩, M2, hG2⟩
                  case measure => simp [intOf]
                · obtain ⟨xb, hxb⟩ : ∃ xb, ((kk : Int) == 1) = xb := ⟨_, rfl⟩
                  by_cases hk33 : k1 = 33
                  · subst hk33
                    have tq : ((33 : Int) == 0) = false := rfl
                    clear hkb
                    cases xb
                    all_goals
                      go_wp2_with fail
                      refine G1.out.mono ?_
                      rintro e w' ⟨rfl, rfl⟩
                      clear G1
                      go_wp2_with fail
                      refine G2.out.mono ?_
                      rintro e w' ⟨rfl, rfl⟩
                      clear G2
                      go_wp2_with fail
                      go_loop [12] (fun j => ∃ jj : Nat, jj ≤ dl ∧ j = .int .i64 jj ∧ Hid (∀ i x, i < jj → d[i]? = some x → x = 0)) (fun j => dl - (intOf j).toNat)
                      case atStart => exact ⟨0, by omega, rfl, Lib.hid (fun i x h => by omega)⟩
                      case round =>
                        obtain ⟨jj, hjj, rfl, hz⟩ := hrel
                        by_cases hj : jj < dl
                        · rename_i aa
                          clear aa
                          have d5 : decide ((jj : Int) < (dl : Int)) = true := decide_eq_true (by omega)
                          have d5n : decide (jj < dl) = true := decide_eq_true hj
                          have hji : (0 : Int) ≤ (jj : Int) ∧ (jj : Int) < (dl : Int) := by omega
                          have hji0 := hji.1
                          have hji1 := hji.2
                          have hjl : jj < d.length := by rw [hdl.out]; exact hj
                          obtain ⟨bb, oo, rfl, hcell⟩ := hR2.out.at_ (k := jj) (by rw [bv_length]; exact hjl)
                          obtain ⟨x, hx⟩ : ∃ x, d[jj] = x := ⟨_, rfl⟩
                          simp only [bv, List.getElem_map] at hcell
                          rw [hx] at hcell
                          have hxg : Hid (d[jj]? = some x) := Lib.hid (by rw [List.getElem?_eq_getElem hjl, hx])
                          replace hx := Lib.hid hx
                          clear hji
                          by_cases hx0 : x = 0
                          · have tx : ((x.toNat : Int) != 0) = false := by rw [hx0]; rfl
                            have hz2 : Hid (∀ i y, i < jj + 1 → d[i]? = some y → y = 0) := Lib.hid (fun i y hi hy => by
                              rcases Nat.lt_or_ge i jj with h | h
                              · exact hz.out i y h hy
                              · have e : i = jj := by omega
                                subst e
                                rw [hxg.out] at hy
                                injection hy with hy
                                rw [← hy]; exact hx0)
                            replace hx0 := Lib.hid hx0
                            clear hz
                            go_wp2_with fail
                            go_round
                            case rel => exact ⟨jj + 1, by omega, by go_num, hz2⟩
                            case measure => simp [intOf]; omega
                          · have tx : ((x.toNat : Int) != 0) = true := by
                              rw [bne_iff_ne]; intro e; exact hx0 (UInt8.toNat_inj.1 (by simpa using e))
                            have hV : Hid (lget l = (([], []), 5)) := Lib.hid (HG.out.pad_no hkp hk1024 hne.out hlrd.out (.inr (by
                              rw [List.any_eq_true]
                              exact ⟨x, List.mem_of_getElem? hxg.out, by simpa using hx0⟩)) (by intro e; cases e))
                            have y0 := wrote_cell M.out.res 0 _ rfl
                            have y1 := wrote_cell M.out.res 1 _ rfl
                            have f0 := frozen_of_row wr g 0 _ _ M.out.res
                            have f1 := frozen_of_row wr g 1 _ _ M.out.res
                            clear HG hlrd hx0 hz
                            go_wp2_with fail
                            obtain ⟨e1, _, e2⟩ := end0 M.out.res M.out.bel hg (.slice none 0 0) (.slice none 0 0)
                            refine bodyPost_ret (v := .tuple #[.agg #[.slice none 0 0, .slice none 0 0], .int .i64 5]) (res_ct rfl _ _ ⟨g, 0, none⟩ _ rfl (loadM e1 ⟨_, _, _, rfl⟩ ⟨_, _, _, rfl⟩) rfl) rfl ?_
                            rw [hV.out]
                            exact ⟨none, 0, none, 0, rfl, World.ownsRow_nil _ _ _ _, World.ownsRow_nil _ _ _ _, e2⟩
                        · obtain rfl : dl = jj := by omega
                          have d5 : decide ((dl : Int) < (dl : Int)) = false := by simp
                          have d5n : decide (dl < dl) = false := by simp
                          have hG2 : Hid (RG l (kk + 1) r L bod) := Lib.hid (HG.out.pad hkp hk1024 hne.out hlrd.out (by
                            rw [List.any_eq_false]
                            intro x hx
                            obtain ⟨i, hi⟩ := List.mem_iff_getElem?.1 hx
                            have hil : i < dl := by have := (List.getElem?_eq_some_iff.1 hi).1; rw [hdl.out] at this; exact this
                            rw [hz.out i x hil hi]
                            decide))
                          clear HG hlrd hz
                          go_wp2_with fail
                          go_roundw
                          case rel => exact ⟨kk + 1, X3, n3, c3, r, AL, nL, cL, L, Ab, nb, cb, bod, rfl, rfl, by go_num, by omega, hn3c, hc3c, Lib.hid ⟨hR3.out, hrl.out⟩, M, hG2⟩
                          case measure => simp [intOf]; omega
                  · have t33 : (k1 == 33) = false := beq_eq_false_iff_ne.2 hk33
                    have tz : Hid (xb = true → (k1 == 0) = false) := Lib.hid (fun e => beq_eq_false_iff_ne.2 (fun h => hkb ⟨by rw [e] at hxb; have := beq_iff_eq.1 hxb; omega, h⟩))
                    have hV9 : Hid (lget l = (([], []), 5)) := Lib.hid (HG.out.pad_no hkp hk1024 hne.out hlrd.out (.inl hk33) (fun h e => hkb ⟨e, h⟩))
                    clear hkb HG hlrd
                    replace hk33 := Lib.hid hk33
                    cases xb with
                    | false =>
                      clear tz
                      have hV : Hid (lget l = (([], []), 5)) := Lib.hid (hV9.out)
                      have y0 := wrote_cell M.out.res 0 _ rfl
                      have y1 := wrote_cell M.out.res 1 _ rfl
                      have f0 := frozen_of_row wr g 0 _ _ M.out.res
                      have f1 := frozen_of_row wr g 1 _ _ M.out.res
                      go_wp2_with fail
                      refine G1.out.mono ?_
                      rintro e w' ⟨rfl, rfl⟩
                      clear G1
                      go_wp2_with fail
                      refine G2.out.mono ?_
                      rintro e w' ⟨rfl, rfl⟩
                      clear G2
                      go_wp2_with fail
                      obtain ⟨e1, _, e2⟩ := end0 M.out.res M.out.bel hg (.slice none 0 0) (.slice none 0 0)
                      refine bodyPost_ret (v := .tuple #[.agg #[.slice none 0 0, .slice none 0 0], .int .i64 5]) (res_ct rfl _ _ ⟨g, 0, none⟩ _ rfl (loadM e1 ⟨_, _, _, rfl⟩ ⟨_, _, _, rfl⟩) rfl) rfl ?_
                      rw [hV.out]
                      exact ⟨none, 0, none, 0, rfl, World.ownsRow_nil _ _ _ _, World.ownsRow_nil _ _ _ _, e2⟩
                    | true =>
                      have tz2 := tz.out (by first | rfl | trivial)
                      clear tz
                      have hV : Hid (lget l = (([], []), 5)) := Lib.hid (hV9.out)
                      have y0 := wrote_cell M.out.res 0 _ rfl
                      have y1 := wrote_cell M.out.res 1 _ rfl
                      have f0 := frozen_of_row wr g 0 _ _ M.out.res
                      have f1 := frozen_of_row wr g 1 _ _ M.out.res
                      go_wp2_with fail
                      refine G1.out.mono ?_
                      rintro e w' ⟨rfl, rfl⟩
                      clear G1
                      go_wp2_with fail
                      refine G2.out.mono ?_
                      rintro e w' ⟨rfl, rfl⟩
                      clear G2
                      go_wp2_with fail
                      obtain ⟨e1, _, e2⟩ := end0 M.out.res M.out.bel hg (.slice none 0 0) (.slice none 0 0)
                      refine bodyPost_ret (v := .tuple #[.agg #[.slice none 0 0, .slice none 0 0], .int .i64 5]) (res_ct rfl _ _ ⟨g, 0, none⟩ _ rfl (loadM e1 ⟨_, _, _, rfl⟩ ⟨_, _, _, rfl⟩) rfl) rfl ?_
                      rw [hV.out]
                      exact ⟨none, 0, none, 0, rfl, World.ownsRow_nil _ _ _ _, World.ownsRow_nil _ _ _ _, e2⟩
          · have d2 : (e2 != 0) = true := by simpa using h2
            have hV : Hid (lget l = (([], []), 5)) := Lib.hid (HG.out.none hbo.out (by omega) hne.out (lrd_e2 he1.out hmi.out (by rw [HR.out.2]; omega) (.inl (by rw [he2]; exact h2))))
            have y0 := wrote_cell M.out.res 0 _ rfl
            have y1 := wrote_cell M.out.res 1 _ rfl
            have f0 := frozen_of_row wr g 0 _ _ M.out.res
            have f1 := frozen_of_row wr g 1 _ _ M.out.res
            clear HG hb h2 he2 hLI hqi bd2 hn1 hc1e hnc hccr hkk h0
            go_wp2_with fail
            refine G1.out.mono ?_
            rintro e w' ⟨rfl, rfl⟩
            clear G1
            go_wp2_with fail
            refine G2.out.mono ?_
            rintro e w' ⟨rfl, rfl⟩
            clear G2
            go_wp2_with fail
            obtain ⟨e1, _, e2⟩ := end0 M.out.res M.out.bel hg (.slice none 0 0) (.slice none 0 0)
            refine bodyPost_ret (v := .tuple #[.agg #[.slice none 0 0, .slice none 0 0], .int .i64 5]) (res_ct rfl _ _ ⟨g, 0, none⟩ _ rfl (loadM e1 ⟨_, _, _, rfl⟩ ⟨_, _, _, rfl⟩) rfl) rfl ?_
            rw [hV.out]
            exact ⟨none, 0, none, 0, rfl, World.ownsRow_nil _ _ _ _, World.ownsRow_nil _ _ _ _, e2⟩
        · have d1 : (e1 != 0) = true := by simpa using h1
          have hV : Hid (lget l = (([], []), 5)) := Lib.hid (HG.out.none hbo.out (by omega) hne.out (lrd_e1 (by rw [he1]; exact h1)))
          have y0 := wrote_cell M.out.res 0 _ rfl
          have y1 := wrote_cell M.out.res 1 _ rfl
          have f0 := frozen_of_row wr g 0 _ _ M.out.res
          have f1 := frozen_of_row wr g 1 _ _ M.out.res
          clear HG h1 he1 hk1 hmi bd1 hnc hccr hkk h0
          go_wp2_with fail
          refine G1.out.mono ?_
          rintro e w' ⟨rfl, rfl⟩
          clear G1
          go_wp2_with fail
          obtain ⟨e1, _, e2⟩ := end0 M.out.res M.out.bel hg (.slice none 0 0) (.slice none 0 0)
          refine bodyPost_ret (v := .tuple #[.agg #[.slice none 0 0, .slice none 0 0], .int .i64 5]) (res_ct rfl _ _ ⟨g, 0, none⟩ _ rfl (loadM e1 ⟨_, _, _, rfl⟩ ⟨_, _, _, rfl⟩) rfl) rfl ?_
          rw [hV.out]
          exact ⟨none, 0, none, 0, rfl, World.ownsRow_nil _ _ _ _, World.ownsRow_nil _ _ _ _, e2⟩
end Go.Proofs.YtdldipkbknhhoaaDoor

/- A slice of api.Field that came in: how it reads; how long its strings may be. -/
namespace Go.Proofs.YtdldipkbknhhoaaDoor
open Go.ChangeShapes Go.WideShapes Go.ChangeAt Go.RowKit

theorem weightsAll_in {H : Type} {P : Program} {e : TypeId} {d : DataW H} {n : Nat} (hn : n ∈ d.weights P e) : ∀ {l : List (DataW H)}, d ∈ l → n ∈ DataW.weightsAll P e l
  | x :: l, h => by
    simp only [DataW.weightsAll, List.mem_append]
    rcases List.mem_cons.1 h with rfl | h
    · exact .inl hn
    · exact .inr (weightsAll_in hn h)
theorem open_recsF {H : Type} {enc : TypeId × Value → H} {P : Program} {w : World} {t e : TypeId} {f0 f1 : Field} {base : Nat} {a : Option Addr} {len cap : Nat} {d : DataW H} {ps : List MemPlace}
    (ht : P.underlying t = some (.slice e)) (he : P.underlying e = some (.struct #[f0, f1])) (ce : P.cellsOf e = 2) (o0 : f0.offset = 0) (o1 : f1.offset = 1) (c0 : P.cellsOf f0.type = 1) (c1 : P.cellsOf f1.type = 1)
    (s0 : P.underlying f0.type = some .string) (s1 : P.underlying f1.type = some .string) (hw : ∀ n ∈ d.weights P t, n ≤ reachBytes)
    (h : DataW.Trod enc P w base (fun _ => true) true t (.slice a len cap) d ps) :
    ∃ z : List Fd, z.length = len ∧ Rd w a (fdv z) ∧ len ≤ cap ∧ cap ≤ 9223372036854775807 ∧ ∀ x ∈ z, x.name.size ≤ reachBytes ∧ x.value.size ≤ reachBytes := by
  obtain ⟨fuel, hf⟩ := h
  rcases Go.Deep.open_slice_pairs ht he ce o0 o1 c0 c1 hf with ⟨hcs, _⟩ | ⟨a', len', cap', m, n, V0, V1, D0, D1, P0, P1, hcs, _, hl, hm, hmm, hd, hx⟩
  · simp [Value.cells] at hcs
    obtain ⟨rfl, rfl, rfl⟩ := hcs
    exact ⟨[], rfl, Rd.nil _ _, by omega, by omega, fun x hx => by cases hx⟩
  · simp [Value.cells] at hcs
    obtain ⟨rfl, rfl, rfl⟩ := hcs
    have hm' : len ≤ m := by rw [hmm]; simp only [if_true]; exact hl
    simp only [Prod.mk.injEq] at hd
    have each : ∀ i, i < len → ∃ f : Fd, w.cell? (a'.add (i * 2)) = some (.string f.name) ∧ w.cell? (a'.add (i * 2 + 1)) = some (.string f.value) ∧ f.name.size ≤ reachBytes ∧ f.value.size ≤ reachBytes := fun i hi => by
      obtain ⟨g0, g1, t0, t1⟩ := hx i (by omega)
      obtain ⟨q0, e0, x0, _⟩ := DataW.trod_string s0 t0
      obtain ⟨q1, e1, x1, _⟩ := DataW.trod_string s1 t1
      simp only [List.cons.injEq, and_true] at e0 e1
      simp only [Prod.mk.injEq] at x0 x1
      have hin : ∀ n, n ∈ (DataW.agg [D0 i, D1 i]).weights P e → n ≤ reachBytes := fun n hn => hw n (by
        rw [hd.1]
        simp only [DataW.weights, ht, List.mem_cons, List.mem_append]
        exact .inr (.inl (weightsAll_in hn (List.mem_map.2 ⟨i, List.mem_range.2 hi, rfl⟩))))
      refine ⟨⟨q0, q1⟩, by rw [g0, e0], by rw [g1, e1], ?_, ?_⟩
      · have := hin q0.data.toList.length (by simp [DataW.weights, he, DataW.weightsEach, x0.1])
        rwa [Array.length_toList] at this
      · have := hin q1.data.toList.length (by simp [DataW.weights, he, DataW.weightsEach, x1.1])
        rwa [Array.length_toList] at this
    obtain ⟨f, hf'⟩ : ∃ f : Nat → Fd, ∀ i, i < len → w.cell? (a'.add (i * 2)) = some (.string (f i).name) ∧ w.cell? (a'.add (i * 2 + 1)) = some (.string (f i).value) ∧ (f i).name.size ≤ reachBytes ∧ (f i).value.size ≤ reachBytes :=
      ⟨fun i => if hi : i < len then (each i hi).choose else ⟨.empty, .empty⟩, fun i hi => by simp only [dif_pos hi]; exact (each i hi).choose_spec⟩
    refine ⟨(List.range len).map f, by simp, fun hp => ?_, hl, by unfold maxLen at hm; omega, fun x hx => ?_⟩
    · simp at hp
      have h0 := (hf' 0 hp).1
      obtain ⟨b, off, spot⟩ := a'
      have hspot : spot = none := by simpa [Addr.add] using World.cell?_spot h0
      subst hspot
      refine ⟨b, off, rfl, fun j u hu => ?_⟩
      have hj : j < len * 2 := by have := (List.getElem?_eq_some_iff.1 hu).1; simpa using this
      have hz : ((List.range len).map f)[j / 2]? = some (f (j / 2)) := by rw [List.getElem?_map, List.getElem?_range (by omega)]; rfl
      rw [← WideShapes.add_plain]
      rcases (by omega : j % 2 = 0 ∨ j % 2 = 1) with h1 | h1
      · have h2 := rv_get Fd.cells fdc _ (j / 2) _ hz 0 (.string (f (j / 2)).name) rfl
        have h3 := (hf' (j / 2) (by omega)).1
        rw [show j / 2 * 2 + 0 = j by omega, hu] at h2
        rw [show j / 2 * 2 = j by omega] at h3
        rw [h3, h2]
      · have h2 := rv_get Fd.cells fdc _ (j / 2) _ hz 1 (.string (f (j / 2)).value) rfl
        have h3 := (hf' (j / 2) (by omega)).2.1
        rw [show j / 2 * 2 + 1 = j by omega, hu] at h2
        rw [show j / 2 * 2 + 1 = j by omega] at h3
        rw [h3, h2]
    · obtain ⟨i, hi, rfl⟩ := List.mem_map.1 hx
      exact (hf' i (List.mem_range.1 hi)).2.2
end Go.Proofs.YtdldipkbknhhoaaDoor

/- A slice of bytes, or of integers, that came in reads as a list. -/
namespace Go.Proofs.YtdldipkbknhhoaaDoor
open Go.RowKit

/-- A slice of bytes that came in reads as a list of bytes. -/
theorem row_u8 {w : World} {a : Option Addr} {len cap : Nat} {zs : List Int}
    (h : (a = none ∧ len = 0 ∧ cap = 0 ∧ zs = []) ∨ ∃ x, a = some x ∧ len ≤ cap ∧ cap ≤ maxLen ∧ zs.length = cap ∧ (∀ i, i < zs.length → w.cell? (x.add i) = some (.int .u8 (zs.getD i 0))) ∧ ∀ n ∈ zs, (Lit.int .u8 n).wf = true) :
    ∃ l : List UInt8, l.length = len ∧ Rd w a (bv l) ∧ l.length ≤ cap ∧ cap ≤ 9223372036854775807 := by
  rcases h with ⟨rfl, rfl, rfl, _⟩ | ⟨x, rfl, hl, hm, hz, hc, hw⟩
  · exact ⟨[], rfl, Rd.nil _ _, by simp, by omega⟩
  · refine ⟨(zs.take len).map fun z => UInt8.ofNat z.toNat, by simp; omega, ?_, by simp; omega, by simpa [maxLen] using hm⟩
    intro hn
    have hn' : 0 < len := by simp at hn; omega
    obtain ⟨b, off, rfl, hcell⟩ := ints_at hc (by omega)
    refine ⟨b, off, rfl, fun k u hu => ?_⟩
    have hk : k < len := by
      have := (List.getElem?_eq_some_iff.1 hu).1
      simp at this; omega
    have hkz : k < zs.length := by omega
    rw [hcell k hkz]
    have hmem := hw zs[k] (List.getElem_mem hkz)
    have hb := bounds_u8 hmem
    have e : (bv ((zs.take len).map fun z => UInt8.ofNat z.toNat))[k]? = some (.int .u8 zs[k]) := by
      simp [bv, hk, hkz]
      omega
    rw [e] at hu
    injection hu with hu
    rw [← hu]
    simp [List.getD, hkz]

/-- A slice of numbers that came in reads as a list of them. -/
theorem row_int {k : IntKind} {w : World} {a : Option Addr} {len cap : Nat} {zs : List Int}
    (h : (a = none ∧ len = 0 ∧ cap = 0 ∧ zs = []) ∨ ∃ x, a = some x ∧ len ≤ cap ∧ cap ≤ maxLen ∧ zs.length = cap ∧ (∀ i, i < zs.length → w.cell? (x.add i) = some (.int k (zs.getD i 0))) ∧ ∀ n ∈ zs, (Lit.int k n).wf = true) :
    ∃ l : List Int, l.length = len ∧ Rd w a (l.map (Value.int k)) ∧ l.length ≤ cap ∧ cap ≤ 9223372036854775807 ∧ ∀ n ∈ l, (Lit.int k n).wf = true := by
  rcases h with ⟨rfl, rfl, rfl, _⟩ | ⟨x, rfl, hl, hm, hz, hc, hw⟩
  · exact ⟨[], rfl, Rd.nil _ _, by simp, by omega, by simp⟩
  · refine ⟨zs.take len, by simp; omega, ?_, by simp; omega, by simpa [maxLen] using hm, fun n hn => hw n (List.mem_of_mem_take hn)⟩
    intro hn
    have hn' : 0 < len := by simp at hn; omega
    obtain ⟨b, off, rfl, hcell⟩ := ints_at hc (by omega)
    refine ⟨b, off, rfl, fun j u hu => ?_⟩
    have hk : j < len := by
      have := (List.getElem?_eq_some_iff.1 hu).1
      simp at this; omega
    have hkz : j < zs.length := by omega
    rw [hcell j hkz]
    have e : ((zs.take len).map (Value.int k))[j]? = some (.int k zs[j]) := by simp [hk, hkz]
    rw [e] at hu
    injection hu with hu
    rw [← hu]
    simp [List.getD, hkz]

end Go.Proofs.YtdldipkbknhhoaaDoor

/- What the listed variable gives: the buckets' cells. A message that came in. -/
namespace Go.Proofs.YtdldipkbknhhoaaDoor
open Go.ChangeShapes Go.WideShapes Go.ChangeAt Go.RowKit

theorem gBuckets : Tryd.prog.globalNamed "mantilla/letter.buckets" = some 0 := by kernel_rfl
theorem tBuckets : (Tryd.prog.globals[0]?).map (·.type) = some 52 := by kernel_rfl
theorem bk_of_laid {W : World} (h : laidMet Tryd.prog [("mantilla/letter.buckets", Rows.laid_mantilla_letter_buckets)] W) : BK W := by
  obtain ⟨ps, ⟨g1, t1, cs1, f1, p1, q1, hg1, ht1, hv1, hd1, _, _⟩, _⟩ := h
  obtain rfl := Option.some.inj (gBuckets.symm.trans hg1)
  obtain rfl := Option.some.inj (tBuckets.symm.trans ht1)
  obtain ⟨xs, m1, rfl, hx1, hlen, hn3, hel⟩ := DataW.trod_array Tryd.underlying52 hd1
  have c3 : Tryd.prog.cellsOf 3 = 1 := by kernel_rfl
  simp only [Rows.laid_mantilla_letter_buckets, Prod.mk.injEq, DataW.agg.injEq] at hx1
  have h0 := hel 0 (by decide)
  have h1 := hel 1 (by decide)
  have h2 := hel 2 (by decide)
  match xs, hn3, hx1, h0, h1, h2 with
  | [x0, x1, x2], _, hx1, h0, h1, h2 =>
    simp only [List.map_cons, List.map_nil, List.cons.injEq] at hx1
    obtain ⟨k0, e0, y0, _⟩ := DataW.trod_int Tryd.underlying3 (show DataW.trod _ Tryd.prog W 0 _ false m1 3 _ = some x0 from h0)
    obtain ⟨k1, e1, y1, _⟩ := DataW.trod_int Tryd.underlying3 (show DataW.trod _ Tryd.prog W 0 _ false m1 3 _ = some x1 from h1)
    obtain ⟨k2, e2, y2, _⟩ := DataW.trod_int Tryd.underlying3 (show DataW.trod _ Tryd.prog W 0 _ false m1 3 _ = some x2 from h2)
    have z0 : k0 = 256 := by rw [y0] at hx1; simpa using hx1.1.1.symm
    have z1 : k1 = 512 := by rw [y1] at hx1; simpa using hx1.1.2.1.symm
    have z2 : k2 = 1024 := by rw [y2] at hx1; simpa using hx1.1.2.2.1.symm
    subst z0 z1 z2
    have hc := fun i => World.var?_cell hg1 hv1 i
    obtain ⟨l1⟩ := cs1
    rw [c3] at e0 e1 e2
    match l1, e0, e1, e2 with
    | c0 :: c1 :: c2 :: _, e0, e1, e2 =>
      simp at e0 e1 e2
      subst e0 e1 e2
      exact ⟨by simpa using hc 0, by simpa using hc 1, by simpa using hc 2⟩

/-- A message that came in: how it reads; how long its strings may be. -/
structure MsgIn (w : World) (A : Option Addr) (n c : Nat) (B : Option Addr) (m d : Nat) (z : List Fd) (l : List UInt8) : Prop where
  ln : z.length = n
  rf : Rd w A (fdv z)
  nc : n ≤ c
  cc : c ≤ 9223372036854775807
  hs : ∀ x ∈ z, x.name.size ≤ reachBytes ∧ x.value.size ≤ reachBytes
  lm : l.length = m
  rb : Rd w B (bv l)
  md : m ≤ d
  dd : d ≤ 9223372036854775807
theorem open_msg {H : Type} {enc : TypeId × Value → H} {w : World} {base : Nat} {v : Value} {d : DataW H} {ps : List MemPlace}
    (hv : Value.okWide Tryd.prog w .any base 25 v) (hw : ∀ n ∈ d.weights Tryd.prog 25, n ≤ reachBytes)
    (h : DataW.Trod enc Tryd.prog w 0 (fun _ => true) true 25 v d ps) :
    ∃ A n c B m dd z l, v = .agg #[.slice A n c, .slice B m dd] ∧ MsgIn w A n c B m dd z l := by
  obtain ⟨cs, rfl, hcs⟩ := okWide_struct Tryd.underlying25 hv
  obtain ⟨fuel, hf⟩ := h
  obtain ⟨y0, y1, k, hx, hlen, t0, t1⟩ := trod_struct2 Tryd.underlying25 hf
  have c25 : Tryd.prog.cellsOf 25 = 2 := by kernel_rfl
  have c22 : Tryd.prog.cellsOf 22 = 1 := by kernel_rfl
  have c23 : Tryd.prog.cellsOf 23 = 1 := by kernel_rfl
  rw [c25] at hcs
  obtain ⟨⟨l⟩, hl2⟩ : ∃ l : Array Value, cs = l := ⟨_, rfl⟩
  subst hl2
  match l, hcs with
  | [x0, x1], _ =>
    simp only [c22, c23, Value.cells, List.drop_zero, List.drop_succ_cons, List.take_succ_cons, List.take_zero] at t0 t1
    obtain ⟨A, n, c, rfl⟩ : ∃ A n c, x0 = .slice A n c := by
      rcases DataW.trod_slice Tryd.underlying22 t0 with ⟨h0, _⟩ | ⟨a, len, cap, elems, rest, n, _, h0, _⟩
      · exact ⟨_, _, _, by simpa using h0⟩
      · exact ⟨_, _, _, by simpa using h0⟩
    obtain ⟨B, m, dd, rfl⟩ : ∃ A n c, x1 = .slice A n c := by
      rcases DataW.trod_slice Tryd.underlying23 t1 with ⟨h0, _⟩ | ⟨a, len, cap, elems, rest, n, _, h0, _⟩
      · exact ⟨_, _, _, by simpa using h0⟩
      · exact ⟨_, _, _, by simpa using h0⟩
    simp only [Prod.mk.injEq] at hx
    have hw0 : ∀ n ∈ y0.1.weights Tryd.prog 22, n ≤ reachBytes := fun n hn => hw n (by rw [hx.1]; simp [DataW.weights, Tryd.underlying25, DataW.weightsEach, hn])
    obtain ⟨z, z1, z2, z3, z4, z5⟩ := open_recsF Tryd.underlying22 Tryd.underlying47 (by kernel_rfl) rfl rfl (by kernel_rfl) (by kernel_rfl) (by kernel_rfl) (by kernel_rfl) hw0 (a := A) (len := n) (cap := c) (ps := y0.2) ⟨k, t0⟩
    have hb : ∃ zs : List Int, (B = none ∧ m = 0 ∧ dd = 0 ∧ zs = []) ∨ ∃ x, B = some x ∧ m ≤ dd ∧ dd ≤ maxLen ∧ zs.length = dd ∧ (∀ i, i < zs.length → w.cell? (x.add i) = some (.int .u8 (zs.getD i 0))) ∧ ∀ n ∈ zs, (Lit.int .u8 n).wf = true := by
      rcases open_ints Tryd.underlying23 Tryd.underlying5 (by kernel_rfl) t1 with ⟨h0, _⟩ | ⟨x, le, ca, zs, h0, _, h1, h2, h3, _, h4, h5⟩
      · simp at h0
        obtain ⟨rfl, rfl, rfl⟩ := h0
        exact ⟨[], .inl ⟨rfl, rfl, rfl, rfl⟩⟩
      · simp at h0
        obtain ⟨rfl, rfl, rfl⟩ := h0
        exact ⟨zs, .inr ⟨x, rfl, h1, h2, by simpa using h3, h4, h5⟩⟩
    obtain ⟨zs, hz⟩ := hb
    obtain ⟨l, l1, l2, l3, l4⟩ := row_u8 hz
    exact ⟨A, n, c, B, m, dd, z, l, rfl, z1, z2, z3, z4, z5, l1, l2, by omega, l4⟩
end Go.Proofs.YtdldipkbknhhoaaDoor

/- letter's laws: is a message more than is gone through? -/
namespace Go.Proofs.YtdldipkbknhhoaaDoor
open Go.RowKit

def fsz (fs : List Fd) (k : Nat) : Nat := ((fs.take k).map fun f => f.name.size + f.value.size).sum
theorem fsz_succ (fs : List Fd) (k : Nat) (h : k < fs.length) : fsz fs (k + 1) = fsz fs k + (fs[k].name.size + fs[k].value.size) := by
  unfold fsz; rw [← List.take_append_getElem h, List.map_append, List.sum_append]; simp
theorem sum_mem {l : List Nat} {x : Nat} (h : x ∈ l) : x ≤ l.sum := by
  induction l with
  | nil => cases h
  | cons y l ih =>
    rw [List.sum_cons]
    rcases List.mem_cons.1 h with rfl | h
    · omega
    · have := ih h; omega
theorem fsz_mem (fs : List Fd) (f : Fd) (h : f ∈ fs) : f.name.size + f.value.size ≤ fsz fs fs.length := by
  unfold fsz
  rw [List.take_length]
  exact sum_mem (List.mem_map_of_mem (f := fun f : Fd => f.name.size + f.value.size) h)
theorem fsz_bd (fs : List Fd) (hs : ∀ x ∈ fs, x.name.size ≤ reachBytes ∧ x.value.size ≤ reachBytes) : ∀ k, k ≤ fs.length → fsz fs k ≤ k * (2 * reachBytes)
  | 0, _ => by simp [fsz]
  | k + 1, h => by
    have h1 := fsz_bd fs hs k (by omega)
    have h2 := hs fs[k] (List.getElem_mem (by omega))
    rw [fsz_succ fs k (by omega), Nat.add_mul]
    omega
def GreatTo (w : World) (z : List Fd) (n m : Nat) (e : Ending) (w' : World) : Prop :=
  (∃ v, e = .returned (.bool v) ∧ (v = false → n ≤ 20 ∧ m ≤ 1200 ∧ ∀ f ∈ z, f.name.size ≤ 2000 ∧ f.value.size ≤ 2000)) ∧ Below w.heap.size w w'
set_option maxRecDepth 100000 in
set_option maxHeartbeats 2000000 in
theorem great_any (z : List Fd) (l : List UInt8) (A B : Option Addr) (n c m d : Nat) (w : World) (hi : MsgIn w A n c B m d z l) :
    Calls Tryd.prog 7 #[.agg #[.slice A n c, .slice B m d]] w (GreatTo w z n m) := by
  obtain ⟨g, hg⟩ : ∃ g, w.heap.size = g := ⟨_, rfl⟩
  obtain ⟨w1, hw1⟩ : ∃ W, w.alloc (.cells #[.slice A n c, .slice B m d] 25) = W := ⟨_, rfl⟩
  have b1 : Hid (Below w.heap.size w w1) := Lib.hid (by rw [← hw1]; exact (Below.refl _ w).alloc (Nat.le_refl _) _)
  have h1 : Hid (w1.heap[g]? = some (.cells #[.slice A n c, .slice B m d] 25 (0, 0))) := Lib.hid (by rw [← hw1, ← hg]; exact heap_alloc_new w _)
  have x0 := wrote_cell h1.out 0 _ rfl
  have x1 := wrote_cell h1.out 1 _ rfl
  have HI := Lib.hid hi
  have hcc := hi.cc
  have hnc := hi.nc
  have hdd := hi.dd
  have hmd := hi.md
  clear hi
  replace hw1 := Lib.hid hw1
  by_cases h20 : 20 < n
  · have d0 : decide ((20 : Int) < (n : Int)) = true := decide_eq_true (by omega)
    go_enter Tryd.func7, Tryd.ntmps7
    go_wp2_with fail
    rw [hw1.out]
    go_wp2_with fail
    go_ret
    exact ⟨⟨true, rfl, fun h => by cases h⟩, b1.out⟩
  · by_cases h12 : 1200 < m
    · have d0 : decide ((20 : Int) < (n : Int)) = false := decide_eq_false (by omega)
      have d1 : decide ((1200 : Int) < (m : Int)) = true := decide_eq_true (by omega)
      go_enter Tryd.func7, Tryd.ntmps7
      go_wp2_with fail
      rw [hw1.out]
      go_wp2_with fail
      go_ret
      exact ⟨⟨true, rfl, fun h => by cases h⟩, b1.out⟩
    · have d0 : decide ((20 : Int) < (n : Int)) = false := decide_eq_false (by omega)
      have d1 : decide ((1200 : Int) < (m : Int)) = false := decide_eq_false (by omega)
      have hbd := fsz_bd z HI.out.hs
      unfold reachBytes at hbd
      obtain ⟨V, hV⟩ : ∃ V, decide ((2000 : Int) < (fsz z n : Int)) = V := ⟨_, rfl⟩
      have hfin : Hid (V = false → n ≤ 20 ∧ m ≤ 1200 ∧ ∀ f ∈ z, f.name.size ≤ 2000 ∧ f.value.size ≤ 2000) := Lib.hid (fun h => ⟨by omega, by omega, fun f hf => by
        rw [h] at hV
        have h1 := of_decide_eq_false hV
        have h2 := fsz_mem z f hf
        rw [HI.out.ln] at h2
        omega⟩)
      have hz := HI.out.ln
      rw [hz] at hbd
      replace hbd := Lib.hid hbd
      replace hz := Lib.hid hz
      replace hV := Lib.hid hV
      go_enter Tryd.func7, Tryd.ntmps7
      go_wp2_with fail
      rw [hw1.out]
      go_wp2_with fail
      clear x0 x1
      go_loopw [3, 4] (fun s i W => ∃ k q : Nat, k ≤ n ∧ s = .int .i64 (fsz z k) ∧ i = .int .i64 k ∧ W = w1.drewN q) (fun _ i _ => n - (intOf i).toNat)
      case atStart => exact ⟨0, 0, by omega, by simp [fsz], rfl, rfl⟩
      case round =>
        obtain ⟨k, q, hk, rfl, rfl, rfl⟩ := hrel
        have x0 := wrote_cell h1.out 0 _ rfl
        by_cases hkn : k < n
        · rename_i aa
          clear aa
          have e0 : decide ((k : Int) < (n : Int)) = true := decide_eq_true (by omega)
          have e1 : decide (k < n) = true := decide_eq_true hkn
          have hkz : k < z.length := by rw [hz.out]; exact hkn
          have hkl0 : (0 : Int) ≤ (k : Int) := by omega
          have hkl1 : (k : Int) < (n : Int) := by omega
          obtain ⟨b, o, rfl, y0, y1⟩ := load_fd (HI.out.rf.below b1.out) hkz
          obtain ⟨f, hf⟩ : ∃ f, z[k] = f := ⟨_, rfl⟩
          have hsz := HI.out.hs z[k] (List.getElem_mem hkz)
          have hsu := fsz_succ z k hkz
          have hb1 := hbd.out (k + 1) (by omega)
          have hb0 := hbd.out k (by omega)
          unfold reachBytes at hsz
          rw [hf] at y0 y1 hsz hsu
          obtain ⟨fa, fb⟩ := f
          simp only at y0 y1 hsz hsu
          obtain ⟨S0, hS0⟩ : ∃ S0, fsz z k = S0 := ⟨_, rfl⟩
          obtain ⟨S2, hS2⟩ : ∃ S2, fsz z (k + 1) = S2 := ⟨_, rfl⟩
          obtain ⟨na, hna⟩ : ∃ na, fa.size = na := ⟨_, rfl⟩
          obtain ⟨nb, hnb⟩ : ∃ nb, fb.size = nb := ⟨_, rfl⟩
          rw [hS0] at hb0
          rw [hS0, hS2, hna, hnb] at hsu
          rw [hS2] at hb1
          rw [hna, hnb] at hsz
          obtain ⟨S1, hS1⟩ : ∃ S1, S0 + na = S1 := ⟨_, rfl⟩
          have q1 : IntKind.i64.wrap ((S0 : Int) + (na : Int)) = (S1 : Int) := by rw [IntKind.wrap_i64]; omega
          have q2 : IntKind.i64.wrap ((S1 : Int) + (nb : Int)) = (S2 : Int) := by rw [IntKind.wrap_i64]; omega
          rw [hS0]
          clear hf hsz hb0 hb1 hsu hS1
          replace hS0 := Lib.hid hS0
          replace hS2 := Lib.hid hS2
          go_wp2_with fail
          go_big_quiet (fail)
          clear q1 q2 y0 y1 x0
          go_wp2_with fail
          go_roundw
          case rel => exact ⟨k + 1, q + nq, by omega, by rw [hS2.out], by go_num, rfl⟩
          case measure => simp [intOf]; omega
        · obtain rfl : n = k := by omega
          have e0 : decide ((n : Int) < (n : Int)) = false := by simp
          have e1 : decide (n < n) = false := by simp
          obtain ⟨S0, hS0⟩ : ∃ S0, fsz z n = S0 := ⟨_, rfl⟩
          rw [hS0] at hV ⊢
          have hV2 := hV.out
          clear hS0 hbd
          go_wp2_with fail
          go_ret
          exact ⟨⟨V, rfl, hfin.out⟩, (Fr.of_below b1.out NoS).drewN q |>.below⟩
end Go.Proofs.YtdldipkbknhhoaaDoor

/- The builtin copy of bytes into a row that is known whole: what the row is then, and that nothing else turns. -/
namespace Go.Proofs.YtdldipkbknhhoaaDoor
open Go.RowKit

theorem wpList_copyB {P : Program} {w : World} {ops : Array Oper} {rest : List Oper} {o : Oper} {a : Act} {Q : Exit → Act → World → Prop} (hgd : o.guard = none) (d s : Operand) (dT sT : TypeId)
    (ho : o.op = .call { callee := .builtin .copy, args := #[d, s], argTypes := #[dT, sT] }) (elem : TypeId) (hu : P.underlying dT = some (.slice elem)) (hsz : (P.info? elem).map (·.size) = some 1)
    (dp sp : Option Addr) (dLen dCap m sCap : Nat) (hd : a.eval d = .slice dp dLen dCap) (hs : a.eval s = .slice sp m sCap)
    (g off : Nat) (G b : List UInt8) (t : TypeId) (hg : w.heap[g]? = some (.cells (bv G).toArray t (0, 0))) (hb : b.length = m) (hm : m ≤ dLen) (hdp : 0 < m → dp = some ⟨g, off, none⟩) (hr : Rd w sp (bv b)) (hfit : off + m ≤ G.length)
    (h : ∀ w', w'.heap[g]? = some (.cells (bv (G.take off ++ b ++ G.drop (off + m))).toArray t (0, 0)) → Fr (· = g) w w' → wpList P ops Q rest (a.put o.dst (goInt m)) w') : wpList P ops Q (o :: rest) a w := by
  subst hb
  by_cases h0 : b.length = 0
  · obtain rfl : b = [] := List.eq_nil_of_length_eq_zero h0
    refine wpList_copy_nothing hgd d s dT sT ho elem hu hsz dp sp dLen dCap _ sCap hd hs (by simp) ?_
    exact h w (by simpa using hg) (Fr.refl _ _)
  · obtain rfl := hdp (by omega)
    obtain ⟨b0, o0, rfl, hc⟩ := hr (by simp; omega)
    refine wpList_copy_own hgd d s dT sT ho elem hu hsz g off dLen dCap ⟨b0, o0, none⟩ _ sCap hd hs (bv G).toArray t hg (bv b) (by rw [bv_length]; exact (Nat.min_eq_left hm).symm) (fun j v hv => by rw [WideShapes.add_plain]; exact hc j v hv) (by simpa using hfit) (bv_one _) ?_
    have e : (bv G).toArray.toList.take off ++ (bv b ++ (bv G).toArray.toList.drop (off + (bv b).length)) = bv (G.take off ++ b ++ G.drop (off + b.length)) := by
      simp [bv, List.map_take, List.map_drop]
    rw [e, bv_length]
    exact h _ (setRow_heap w g _ _ t _ hg) ⟨rfl, rfl, rfl, by simp, fun k _ hk => setRow_other w g k _ hk⟩
end Go.Proofs.YtdldipkbknhhoaaDoor

/- LetterReads: it is true at every input. -/
namespace Go.Proofs.YtdldipkbknhhoaaDoor
open Go.RowKit
theorem fgl_len : ∀ (f : Nat) (l : List UInt8) (acc : List Fd), acc.length ≤ 16 → (fgl f l acc).1.length ≤ 16
  | f, [], acc, h => by rw [fgl_nil]; exact h
  | 0, _ :: _, acc, h => h
  | f + 1, x :: r, acc, h => by
    rw [fgl_cons]
    split
    · simp
    · split
      · simp
      · exact fgl_len f _ _ (by rw [List.length_append]; simp; omega)
theorem fget_len (l : List UInt8) : (fget l).1.length ≤ 16 := by
  unfold fget
  split
  · simp
  · split
    · simp
    · exact fgl_len _ _ _ (by simp)
theorem lgo_len : ∀ (f k : Nat) (l bod b : List UInt8) (N : Nat), l.length ≤ N → bod.length ≤ N → lgo f k l bod = some b → b.length ≤ N
  | f, k, [], bod, b, N, _, h2, h => by rw [lgo_nil] at h; injection h with h; rw [← h]; exact h2
  | 0, k, x :: l, bod, b, N, _, h2, h => by
    have h : some bod = some b := h
    injection h with h; rw [← h]; exact h2
  | f + 1, k, x :: l, bod, b, N, h1, h2, h => by
    obtain ⟨o, ho⟩ : ∃ o, lrd (x :: l) = o := ⟨_, rfl⟩
    match o, ho with
    | none, ho => rw [lgo_none (by simp) ho] at h; cases h
    | some (kind, d, r), ho =>
      have hl := lrd_len ho
      rw [lgo_some (by simp) ho] at h
      split at h
      · exact lgo_len f _ r d b N (by omega) (by omega) h
      · split at h
        · cases h
        · exact lgo_len f _ r bod b N (by omega) h2 h
theorem lget_len (l : List UInt8) : (lget l).1.1.length ≤ 16 ∧ (lget l).1.2.length ≤ l.length := by
  unfold lget
  split
  · simp
  · obtain ⟨o, ho⟩ : ∃ o, lrd l = o := ⟨_, rfl⟩
    rw [ho]
    match o, ho with
    | none, _ => simp
    | some (kind, d, r), ho =>
      have hl := lrd_len ho
      simp only
      split
      · simp
      · obtain ⟨p, hp⟩ : ∃ p, lgo 1024 0 r [] = p := ⟨_, rfl⟩
        rw [hp]
        match p, hp with
        | none, _ => simp
        | some bod, hp =>
          simp only
          split
          · simp
          · exact ⟨fget_len d, lgo_len 1024 0 r [] bod l.length (by omega) (by simp) hp⟩
/-- Bytes of our own that are known whole. -/
structure AB (w W : World) (g N : Nat) (G : List UInt8) : Prop where
  row : W.heap[g]? = some (.cells (bv G).toArray 5 (0, 0))
  len : G.length = N
  bel : Below w.heap.size w W
  new : w.heap.size ≤ g
theorem bv_set (l : List UInt8) (m : Nat) (x : UInt8) : bv (l.set m x) = (bv l).set m (.int .u8 x.toNat) := by simp [bv, List.map_set]
theorem AB.rd {w W : World} {g N : Nat} {G : List UInt8} (h : AB w W g N G) : Rd W (some ⟨g, 0, none⟩) (bv G) := fun hn => ⟨g, 0, rfl, fun k u hu => by
  rw [Nat.zero_add]
  exact wrote_cell h.row k u (by rw [List.getElem?_toArray]; exact hu)⟩
theorem AB.set {w W : World} {g N : Nat} {G : List UInt8} (h : AB w W g N G) (i : Nat) (x : UInt8) (hi : i < N) : AB w (W.setCell ⟨g, i, none⟩ (.int .u8 x.toNat)) g N (G.set i x) := by
  refine ⟨?_, by rw [List.length_set]; exact h.len, Fr.under h.bel h.bel.size ((Fr.refl (fun k => k = g) W).setCell (p := ⟨g, i, none⟩) (fun _ => rfl) _) (fun k hk _ => by have := h.new; omega), h.new⟩
  have := heap_setCell_same W g i _ _ (.int .u8 x.toNat) h.row
  rw [this, bv_set]
  simp
theorem AB.made {w W : World} (N : Nat) (b : Below w.heap.size w W) : AB w (W.alloc (.cells (madeCells #[.int .u8 0] N) 5)) W.heap.size N (List.replicate N 0) := by
  refine ⟨?_, by simp, b.alloc b.size _, b.size⟩
  have h1 := heap_alloc_new W (.cells (madeCells #[.int .u8 0] N) 5)
  have h2 : madeCells #[Value.int .u8 0] N = (bv (List.replicate N 0)).toArray := by
    apply Array.ext'
    rw [toList_madeCells_one]
    simp [bv]
  rw [h2] at h1 ⊢
  exact h1
theorem AB.cell {w W : World} {g N : Nat} {G : List UInt8} (h : AB w W g N G) (i : Nat) (hi : i < N) : ∃ v, W.cell? ⟨g, i, none⟩ = some v := by
  have hl : i < (bv G).length := by rw [bv_length, h.len]; exact hi
  exact ⟨_, wrote_cell h.row i _ (by rw [List.getElem?_toArray]; exact List.getElem?_eq_getElem hl)⟩
theorem AB.below {w W W' : World} {g N : Nat} {G : List UInt8} (h : AB w W g N G) (b : Below W.heap.size W W') : AB w W' g N G := ⟨heap_fr h.row (Fr.of_below b NoS) (fun x => x), h.len, h.bel.trans (b.mono h.bel.size), h.new⟩
def AllTo (w : World) (n : Nat) (v : Value) (W : World) : Prop := ∃ (N g : Nat) (G : List UInt8), v = .slice (some ⟨g, 0, none⟩) N N ∧ N ≤ 1024 ∧ n ≤ N ∧ AB w W g N G
theorem pad_or (Y : Int) (h0 : 0 ≤ Y) (h1 : Y ≤ 3) : bits .or .u8 64 Y = 64 + Y := by
  rcases (by omega : Y = 0 ∨ Y = 1 ∨ Y = 2 ∨ Y = 3) with rfl | rfl | rfl | rfl <;> decide
theorem u8_byte' (y : Int) (h0 : 0 ≤ y) (h1 : y ≤ 255) : ∃ x : UInt8, (x.toNat : Int) = y := ⟨UInt8.ofNat y.toNat, by rw [UInt8.toNat_ofNat']; omega⟩
theorem rget_to (l : List UInt8) (A : Option Addr) (n c : Nat) (w : World) (hn : l.length = n) (hr : Rd w A (bv l)) (hc : n ≤ c) (hcc : c ≤ 9223372036854775807) (hl : n ≤ 1000000) (fs : List Fd) (D : List UInt8) (E : Int) (h : lget l = ((fs, D), E)) :
    Calls Tryd.prog 15 #[.slice A n c] w (GetTo w fs D E) := by
  refine (rltget_any l A n c w hn hr hc hcc hl).mono ?_
  rw [h]
  rintro e w' ⟨Af, cf, Ab, cb, he, ho, ho2, hb⟩
  exact ⟨Af, cf, Ab, cb, he, Rd.of_ownS ho, Rd.of_own ho2, hb⟩
/-- A message that was told, in a variable. -/
structure Mg (w : World) (p : Nat) (F : List Fd) (D : List UInt8) (A : Option Addr) (c : Nat) (B : Option Addr) (d : Nat) : Prop where
  row : w.heap[p]? = some (.cells #[.slice A F.length c, .slice B D.length d] 25 (0, 0))
  rf : Rd w A (fdv F)
  rb : Rd w B (bv D)
section
variable {w w' : World} {p q : Nat} {F : List Fd} {D : List UInt8} {A B A' B' : Option Addr} {c d c' d' : Nat}
theorem Mg.below (h : Mg w p F D A c B d) (b : Below w.heap.size w w') : Mg w' p F D A c B d := ⟨heap_fr h.row (Fr.of_below b NoS) (fun x => x), h.rf.below b, h.rb.below b⟩
theorem Mg.made (hp : w.heap.size = p) (h1 : Rd w A (fdv F)) (h2 : Rd w B (bv D)) : Mg (w.alloc (.cells #[.slice A F.length c, .slice B D.length d] 25)) p F D A c B d := by
  subst hp
  exact ⟨heap_alloc_new w _, h1.alloc _, h2.alloc _⟩
theorem Mg.c0 (h : Mg w p F D A c B d) : w.cell? ⟨p, 0, none⟩ = some (.slice A F.length c) := wrote_cell h.row 0 _ rfl
theorem Mg.c1 (h : Mg w p F D A c B d) : w.cell? ⟨p, 1, none⟩ = some (.slice B D.length d) := wrote_cell h.row 1 _ rfl
theorem Mg.same (h : Mg w p F D A c B d) (k : Mg w q F D A' c' B' d') (h1 : F.length ≤ 1000000) (h2 : D.length ≤ 1000000) : Calls Tryd.prog 16 #[.agg #[.slice A F.length c, .slice B D.length d], .agg #[.slice A' F.length c', .slice B' D.length d']] w fun e w' => e = .returned (.bool true) ∧ Below w.heap.size w w' :=
  samem_n true F F D D _ _ _ _ rfl rfl rfl rfl A A' B B' c c' d d' w h.rf k.rf h.rb k.rb h1 h1 h2 h2 (by simp)
end
/-- What stays as the law goes on. -/
structure RF (w2 W : World) (g : Nat) (z : List Fd) (l : List UInt8) (Af : Option Addr) (nf cf : Nat) (Ab : Option Addr) (m d : Nat) (ga N : Nat) (G : List UInt8) (A : Option Addr) (bs : List UInt8) : Prop where
  bk : BK W
  msg : Msg W g z l Af nf cf Ab m d
  ab : AB w2 W ga N G
  rb : Rd W A (bv bs)
theorem RF.below {w2 W W' : World} {g : Nat} {z : List Fd} {l : List UInt8} {Af : Option Addr} {nf cf : Nat} {Ab : Option Addr} {m d ga N : Nat} {G : List UInt8} {A : Option Addr} {bs : List UInt8}
    (h : RF w2 W g z l Af nf cf Ab m d ga N G A bs) (b : Below W.heap.size W W') : RF w2 W' g z l Af nf cf Ab m d ga N G A bs := ⟨h.bk.below b, h.msg.below b, h.ab.below b, h.rb.below b⟩
def ReadsGo (w : World) (e : Ending) (w' : World) : Prop := e = .returned (.bool true) ∧ Below w.heap.size w w'
set_option maxRecDepth 100000 in
set_option maxHeartbeats 8000000 in
theorem reads_any (bs : List UInt8) (pad : Bool) (z : List Fd) (l : List UInt8) (at0 by0 : Int) (hb0 : 0 ≤ by0) (hb1 : by0 ≤ 255) (A Af Ab : Option Addr) (n c nf cf m d : Nat) (w : World) (hbk : BK w) (hn : bs.length = n) (hr : Rd w A (bv bs)) (hnc : n ≤ c) (hcc : c ≤ 9223372036854775807) (hi : MsgIn w Af nf cf Ab m d z l) :
    Calls Tryd.prog 4 #[.slice A n c, .bool pad, .agg #[.slice Af nf cf, .slice Ab m d], .int .i64 at0, .int .u8 by0] w (ReadsGo w) := by
  obtain ⟨g, hg⟩ : ∃ g, w.heap.size = g := ⟨_, rfl⟩
  obtain ⟨w1, hw1⟩ : ∃ W, w.alloc (.cells #[.slice Af nf cf, .slice Ab m d] 25) = W := ⟨_, rfl⟩
  have b1 : Below w.heap.size w w1 := by rw [← hw1]; exact (Below.refl _ w).alloc (Nat.le_refl _) _
  have h1 : Hid (w1.heap[g]? = some (.cells #[.slice Af nf cf, .slice Ab m d] 25 (0, 0))) := Lib.hid (by rw [← hw1, ← hg]; exact heap_alloc_new w _)
  have x0 := wrote_cell h1.out 0 _ rfl
  have x1 := wrote_cell h1.out 1 _ rfl
  rw [← hw1] at x0 x1
  have hi1 : MsgIn w1 Af nf cf Ab m d z l := ⟨hi.ln, hi.rf.below b1, hi.nc, hi.cc, hi.hs, hi.lm, hi.rb.below b1, hi.md, hi.dd⟩
  have GT := Lib.hid (great_any z l Af Ab nf cf m d w1 hi1)
  have HB := Lib.hid (hr.below b1)
  have Hn := Lib.hid hn
  have hbk1 := Lib.hid (hbk.below b1)
  have Hi := Lib.hid hi1
  replace b1 := Lib.hid b1
  replace hw1 := Lib.hid hw1
  clear hn hr hi hi1 hbk
  have fin : Hid (∀ e W, e = .returned (.bool true) → Below w1.heap.size w1 W → ReadsGo w e W) := Lib.hid (fun e W h b => ⟨h, b1.out.trans (b.mono b1.out.size)⟩)
  by_cases h1024 : 1024 < n
  · have d0 : decide ((1024 : Int) < (n : Int)) = true := decide_eq_true (by omega)
    go_enter Tryd.func4, Tryd.ntmps4
    go_wp2_with fail
    rw [hw1.out]
    refine (awake_any _ hbk1.out).mono ?_
    rintro e w2 ⟨rfl, b2⟩
    go_wp2_with fail
    go_ret
    exact fin.out _ _ rfl b2
  · have d0 : decide ((1024 : Int) < (n : Int)) = false := decide_eq_false (by omega)
    have hn0 : n ≤ 1024 := by omega
    go_enter Tryd.func4, Tryd.ntmps4
    go_wp2_with fail
    rw [hw1.out]
    refine GT.out.mono ?_
    rintro e w2 ⟨⟨v, rfl, hv⟩, b2⟩
    clear GT
    cases v with
    | true =>
      clear x0 x1
      go_wp2_with fail
      refine (awake_any _ (hbk1.out.below b2)).mono ?_
      rintro e w3 ⟨rfl, b3⟩
      go_wp2_with fail
      go_ret
      exact fin.out _ _ rfl (b2.trans (b3.mono b2.size))
    | false =>
      obtain ⟨hv1, hv2, hv3⟩ := hv rfl
      have M : Hid (Msg w2 g z l Af nf cf Ab m d) := Lib.hid ⟨heap_fr h1.out (Fr.of_below b2 NoS) (fun x => x), (Hi.out.rf.below b2), (Hi.out.rb.below b2), Hi.out.ln, Hi.out.lm, by omega, by omega, fun f hf => by have := hv3 f hf; omega⟩
      have hbk2 := Lib.hid (hbk1.out.below b2)
      have HB2 := Lib.hid (HB.out.below b2)
      have hgl : g < w2.heap.size := heap_lt M.out.row
      clear x0 x1 h1 Hi HB hbk1 hw1 hv hv1 hv2 hv3 d0 h1024
      have HM : ∀ N : Nat, N ≤ 1024 → ∀ w : World, (Instr.makeSlice 23 (.int .i64 (N : Int)) (.int .i64 (N : Int))).run Tryd.prog w = .ok (.slice (some ⟨w.heap.size, 0, none⟩) N N) (w.alloc (.cells (madeCells #[.int .u8 0] N) 5)) := fun N hN w =>
        run_make_row' (P := Tryd.prog) 23 5 (.int .u8 0) 1 Tryd.underlying23 infoB rfl .i64 .i64 N (by omega) (by omega) w
      have HM1 : ∀ w : World, (Instr.makeSlice 23 (.int .i64 256) (.int .i64 256)).run Tryd.prog w = .ok (.slice (some ⟨w.heap.size, 0, none⟩) 256 256) (w.alloc (.cells (madeCells #[.int .u8 0] 256) 5)) := HM 256 (by omega)
      have HM2 : ∀ w : World, (Instr.makeSlice 23 (.int .i64 1024) (.int .i64 1024)).run Tryd.prog w = .ok (.slice (some ⟨w.heap.size, 0, none⟩) 1024 1024) (w.alloc (.cells (madeCells #[.int .u8 0] 1024) 5)) := HM 1024 (by omega)
      clear HM
      go_upto_if 38 with fail
      have hn256 : Hid (n ≤ 256 ∨ 256 < n) := Lib.hid (by omega)
      go_cut [11] from 39 to 39 (fun v W => AllTo w2 n v W)
      case first =>
        rcases hn256.out with h | h
        · have d1 : decide ((256 : Int) < (n : Int)) = false := decide_eq_false (by omega)
          go_wp2_with fail
          go_meet
          exact ⟨256, _, _, rfl, by omega, h, AB.made 256 (Below.refl _ _)⟩
        · have d1 : decide ((256 : Int) < (n : Int)) = true := decide_eq_true (by omega)
          have h9 := AB.made (w := w2) (W := w2.alloc (.cells (madeCells #[.int .u8 0] 256) 5)) 1024 ((Below.refl _ w2).alloc (Nat.le_refl _) _)
          rw [World.size_alloc] at h9
          replace h9 := Lib.hid h9
          go_wp2_with fail
          go_meet
          exact ⟨1024, _, _, rfl, by omega, hn0, h9.out⟩
      case rest =>
        obtain ⟨N, ga, G, rfl, hN, hnN, HA0⟩ := hcut
        have HA := Lib.hid HA0
        have HB3 := Lib.hid (HB2.out.below HA0.bel)
        obtain ⟨n3, hn3⟩ : ∃ n3, n3 + n = N := ⟨N - n, by omega⟩
        have q3 : IntKind.i64.wrap ((N : Int) - (n : Int)) = (n3 : Int) := by rw [IntKind.wrap_i64]; omega
        have hGl : Hid (0 + n ≤ G.length) := Lib.hid (by rw [HA0.len]; omega)
        clear HA0 HM1 HM2 hn256
        go_upto_region 8 with (refine wpList_copyB rfl (.tmp 40) (.tmp 41) 23 23 rfl 5 Tryd.underlying23 (by kernel_rfl) (some ⟨ga, 0, none⟩) A N N n c (by rfl) (by rfl) ga 0 G bs 5 HA.out.row Hn.out hnN (fun _ => rfl) HB3.out hGl.out ?_; intro w4 hG4 hF4; replace hG4 := Lib.hid hG4; replace hF4 := Lib.hid hF4)
        have HA4 : Hid (∃ G4, AB w2 w4 ga N G4) := Lib.hid ⟨_, hG4.out, by
          have := HA.out.len
          have := Hn.out
          simp only [List.length_append, List.length_take, List.length_drop]
          omega, Fr.under HA.out.bel HA.out.bel.size hF4.out (fun k hk _ => by have := HA.out.new; omega), HA.out.new⟩
        obtain ⟨t3, ht3⟩ : ∃ t3, decide ((3 : Int) ≤ (n3 : Int)) = t3 := ⟨_, rfl⟩
        clear hG4 hF4 HA hGl HB3
        go_cut [52] from 48 to 52 (fun v W => v = .bool (pad && t3) ∧ w4 = W)
        case first =>
          cases pad
          · go_wp2_with fail
            go_meet
            exact ⟨rfl, rfl⟩
          · cases t3
            · go_wp2_with fail
              go_meet
              exact ⟨rfl, rfl⟩
            · go_wp2_with fail
              go_meet
              exact ⟨rfl, rfl⟩
        case rest =>
          obtain ⟨rfl, rfl⟩ := hcut
          obtain ⟨pt, hpt⟩ : ∃ pt, (pad && t3) = pt := ⟨_, rfl⟩
          have hp3 : Hid (pt = true → 3 ≤ n3) := Lib.hid (fun e => by
            rw [← hpt] at e
            have h := (Bool.and_eq_true _ _ ▸ e : pad = true ∧ t3 = true).2
            rw [← ht3] at h
            have := of_decide_eq_true h
            omega)
          rw [hpt]
          clear hpt ht3
          go_upto_if 52 with fail
          go_cut [] from 53 to 74 (fun W => Hid (∃ G, AB w2 W ga N G))
          case first =>
            cases pt with
            | false =>
              go_wp2_with fail
              go_meet
              exact HA4
            | true =>
              have h3 := hp3.out rfl
              obtain ⟨G4, h4⟩ := HA4.out
              obtain ⟨y, hy⟩ : ∃ y, y + 3 = n3 := ⟨n3 - 3, by omega⟩
              obtain ⟨Y, hY⟩ : ∃ Y : Nat, y / 256 = Y := ⟨_, rfl⟩
              obtain ⟨i1, hi1⟩ : ∃ i1, n + 1 = i1 := ⟨_, rfl⟩
              obtain ⟨i2, hi2⟩ : ∃ i2, n + 2 = i2 := ⟨_, rfl⟩
              have r1 : IntKind.i64.wrap ((n : Int) + 1) = (i1 : Int) := by rw [IntKind.wrap_i64]; omega
              have r2 : IntKind.i64.wrap ((n : Int) + 2) = (i2 : Int) := by rw [IntKind.wrap_i64]; omega
              have r3 : IntKind.i64.wrap ((n3 : Int) - 3) = (y : Int) := by rw [IntKind.wrap_i64]; omega
              have hsh : Op.shift .shr .i64 (y : Int) .u64 8 = pure (.int .i64 (Y : Int)) := by
                rw [shift_shr_any _ _ _ _ (by omega), ← hY]
                rfl
              have r4 : IntKind.u8.wrap (Y : Int) = (Y : Int) := by rw [IntKind.wrap_u8]; omega
              have r5 : bits .or .u8 64 (Y : Int) = 64 + (Y : Int) := pad_or Y (by omega) (by omega)
              obtain ⟨v5, hv5⟩ : ∃ v5 : Int, 64 + (Y : Int) = v5 := ⟨_, rfl⟩
              rw [hv5] at r5
              obtain ⟨v6, hv6⟩ : ∃ v6 : Int, IntKind.u8.wrap (y : Int) = v6 := ⟨_, rfl⟩
              have b6 : 0 ≤ v6 ∧ v6 ≤ 255 := by rw [← hv6, IntKind.wrap_u8]; omega
              obtain ⟨x5, hx5⟩ := u8_byte' v5 (by omega) (by omega)
              obtain ⟨x6, hx6⟩ := u8_byte' v6 b6.1 b6.2
              have s0 : (n : Int) < (N : Int) := by omega
              have s1 : (i1 : Int) < (N : Int) := by omega
              have s2 : (i2 : Int) < (N : Int) := by omega
              have p0 : (0 : Int) ≤ (n : Int) := by omega
              have p1 : (0 : Int) ≤ (i1 : Int) := by omega
              have p2 : (0 : Int) ≤ (i2 : Int) := by omega
              have f0 := frozen_of_row w4 ga n _ _ h4.row
              have f1 := frozen_of_row w4 ga i1 _ _ h4.row
              have f2 := frozen_of_row w4 ga i2 _ _ h4.row
              obtain ⟨u0, c0⟩ := h4.cell n (by omega)
              obtain ⟨u1, c1⟩ := h4.cell i1 (by omega)
              obtain ⟨u2, c2⟩ := h4.cell i2 (by omega)
              have e1 : n ≠ i1 := by omega
              have e2 : n ≠ i2 := by omega
              have e3 : i1 ≠ i2 := by omega
              have FIN : Hid (∃ G, AB w2 (((w4.setCell ⟨ga, n, none⟩ (.int .u8 33)).setCell ⟨ga, i1, none⟩ (.int .u8 v5)).setCell ⟨ga, i2, none⟩ (.int .u8 v6)) ga N G) := Lib.hid ⟨_, by
                have a1 := h4.set n 33 (by omega)
                have a2 := a1.set i1 x5 (by omega)
                have a3 := a2.set i2 x6 (by omega)
                rw [hx5, hx6] at a3
                exact a3⟩
              clear hp3 HA4 h4 hy hY hi1 hi2 hv5 b6 hx5 hx6 h3 hn3
              go_wp2_with fail
              go_meet
              exact FIN
          case rest =>
            obtain ⟨G, hG⟩ := hcut.out
            have T : Hid (RF w2 wc g z l Af nf cf Ab m d ga N G A bs) := Lib.hid ⟨hbk2.out.below hG.bel, M.out.below hG.bel, hG, HB2.out.below hG.bel⟩
            have fin2 : Hid (∀ e W, e = .returned (.bool true) → AB w2 W ga N G → ReadsGo w e W) := Lib.hid (fun e W h b => fin.out e W h (b2.trans (b.bel.mono b2.size)))
            clear hG hcut HA4 hp3 M hbk2 HB2 fin b1 b2 hgl hn3
            obtain ⟨F1, hF1⟩ : ∃ x, (lget G).1.1 = x := ⟨_, rfl⟩
            obtain ⟨D1, hD1⟩ : ∃ x, (lget G).1.2 = x := ⟨_, rfl⟩
            obtain ⟨E1, hE1⟩ : ∃ x, (lget G).2 = x := ⟨_, rfl⟩
            have hl1 := lget_len G
            have g1 : lget G = ((F1, D1), E1) := by rw [← hF1, ← hD1, ← hE1]
            rw [hF1, hD1, T.out.ab.len] at hl1
            have hl1a : F1.length ≤ 1000000 := by omega
            have hl1b : D1.length ≤ 1000000 := by omega
            obtain ⟨F2, hF2⟩ : ∃ x, (lget bs).1.1 = x := ⟨_, rfl⟩
            obtain ⟨D2, hD2⟩ : ∃ x, (lget bs).1.2 = x := ⟨_, rfl⟩
            obtain ⟨E2, hE2⟩ : ∃ x, (lget bs).2 = x := ⟨_, rfl⟩
            have g2 : lget bs = ((F2, D2), E2) := by rw [← hF2, ← hD2, ← hE2]
            have e1 : (E1 != E1) = false := bne_self_eq_false _
            have e2 : (E2 != E2) = false := bne_self_eq_false _
            clear hF1 hD1 hE1 hl1 hF2 hD2 hE2
            replace g1 := Lib.hid g1
            replace g2 := Lib.hid g2
            replace hnN := Lib.hid hnN
            go_wp2_with fail
            refine (get_to G (some ⟨ga, 0, none⟩) N N wc T.out.bk T.out.ab.len T.out.ab.rd (Nat.le_refl _) (by omega) (by omega) F1 D1 E1 g1.out).mono ?_
            rintro e wa5 ⟨Y5, y5, Z5, z5, rfl, hY5, hZ5, ba5⟩
            obtain ⟨p5, hp5⟩ : ∃ p, wa5.heap.size = p := ⟨_, rfl⟩
            obtain ⟨w5, hw5⟩ : ∃ W, wa5.alloc (.cells #[.slice Y5 F1.length y5, .slice Z5 D1.length z5] 25) = W := ⟨_, rfl⟩
            have bb5 : Below wc.heap.size wc w5 := by rw [← hw5]; exact ba5.alloc ba5.size _
            have N5 : Hid (Mg w5 p5 F1 D1 Y5 y5 Z5 z5) := Lib.hid (by rw [← hw5]; exact Mg.made hp5 hY5 hZ5)
            replace T := Lib.hid (T.out.below bb5)
            clear ba5 bb5 hY5 hZ5
            replace hp5 := Lib.hid hp5
            replace hw5 := Lib.hid hw5
            go_wp2_with fail
            rw [hw5.out]
            try rw [hp5.out]
            refine (rget_to G (some ⟨ga, 0, none⟩) N N w5 T.out.ab.len T.out.ab.rd (Nat.le_refl _) (by omega) (by omega) F1 D1 E1 g1.out).mono ?_
            rintro e wa6 ⟨Y6, y6, Z6, z6, rfl, hY6, hZ6, ba6⟩
            obtain ⟨p6, hp6⟩ : ∃ p, wa6.heap.size = p := ⟨_, rfl⟩
            obtain ⟨w6, hw6⟩ : ∃ W, wa6.alloc (.cells #[.slice Y6 F1.length y6, .slice Z6 D1.length z6] 25) = W := ⟨_, rfl⟩
            have bb6 : Below w5.heap.size w5 w6 := by rw [← hw6]; exact ba6.alloc ba6.size _
            have N6 : Hid (Mg w6 p6 F1 D1 Y6 y6 Z6 z6) := Lib.hid (by rw [← hw6]; exact Mg.made hp6 hY6 hZ6)
            replace T := Lib.hid (T.out.below bb6)
            replace N5 := Lib.hid (N5.out.below bb6)
            clear ba6 bb6 hY6 hZ6
            replace hp6 := Lib.hid hp6
            replace hw6 := Lib.hid hw6
            go_wp2_with fail
            rw [hw6.out]
            try rw [hp6.out]
            refine (get_to bs A n c w6 T.out.bk Hn.out T.out.rb hnc hcc (by omega) F2 D2 E2 g2.out).mono ?_
            rintro e wa7 ⟨Y7, y7, Z7, z7, rfl, hY7, hZ7, ba7⟩
            obtain ⟨p7, hp7⟩ : ∃ p, wa7.heap.size = p := ⟨_, rfl⟩
            obtain ⟨w7, hw7⟩ : ∃ W, wa7.alloc (.cells #[.slice Y7 F2.length y7, .slice Z7 D2.length z7] 25) = W := ⟨_, rfl⟩
            have bb7 : Below w6.heap.size w6 w7 := by rw [← hw7]; exact ba7.alloc ba7.size _
            have N7 : Hid (Mg w7 p7 F2 D2 Y7 y7 Z7 z7) := Lib.hid (by rw [← hw7]; exact Mg.made hp7 hY7 hZ7)
            replace T := Lib.hid (T.out.below bb7)
            replace N5 := Lib.hid (N5.out.below bb7)
            replace N6 := Lib.hid (N6.out.below bb7)
            clear ba7 bb7 hY7 hZ7
            replace hp7 := Lib.hid hp7
            replace hw7 := Lib.hid hw7
            go_wp2_with fail
            rw [hw7.out]
            try rw [hp7.out]
            refine (rget_to bs A n c w7 Hn.out T.out.rb hnc hcc (by omega) F2 D2 E2 g2.out).mono ?_
            rintro e wa8 ⟨Y8, y8, Z8, z8, rfl, hY8, hZ8, ba8⟩
            obtain ⟨p8, hp8⟩ : ∃ p, wa8.heap.size = p := ⟨_, rfl⟩
            obtain ⟨w8, hw8⟩ : ∃ W, wa8.alloc (.cells #[.slice Y8 F2.length y8, .slice Z8 D2.length z8] 25) = W := ⟨_, rfl⟩
            have bb8 : Below w7.heap.size w7 w8 := by rw [← hw8]; exact ba8.alloc ba8.size _
            have N8 : Hid (Mg w8 p8 F2 D2 Y8 y8 Z8 z8) := Lib.hid (by rw [← hw8]; exact Mg.made hp8 hY8 hZ8)
            replace T := Lib.hid (T.out.below bb8)
            replace N5 := Lib.hid (N5.out.below bb8)
            replace N6 := Lib.hid (N6.out.below bb8)
            replace N7 := Lib.hid (N7.out.below bb8)
            clear ba8 bb8 hY8 hZ8
            replace hp8 := Lib.hid hp8
            replace hw8 := Lib.hid hw8
            have m50 := N5.out.c0
            have m51 := N5.out.c1
            have m60 := N6.out.c0
            have m61 := N6.out.c1
            rw [← hw8.out] at m50 m51 m60 m61
            go_wp2_with fail
            rw [hw8.out]
            try rw [hp8.out]
            clear m50 m51 m60 m61
            refine (N5.out.same N6.out hl1a hl1b).mono ?_
            rintro e w9 ⟨rfl, b9⟩
            replace T := Lib.hid (T.out.below b9)
            clear b9 N5 N6 N7 N8 hw5 hw6 hw7 hw8 hp5 hp6 hp7 hp8 g1 g2 hl1a hl1b
            have x0 := T.out.msg.c0
            have x1 := T.out.msg.c1
            obtain ⟨E3, hE3⟩ : ∃ E3, ltE z l 512 = E3 := ⟨_, rfl⟩
            go_wp2_with fail
            refine (T.out.msg.r.put T.out.bk 512 E3 hE3).mono ?_
            rintro e wq ⟨R, Y, r, y, rfl, hk, hR, hY, hry, hyy, hr2, bq⟩
            replace T := Lib.hid (T.out.below bq)
            have hcl : Hid (E3 = 0 → r = 512) := Lib.hid (fun h => by
              rw [h] at hE3
              have := (hR.2 hE3).1
              omega)
            clear x0 x1 bq hR hE3
            by_cases h30 : E3 = 0
            · have hr512 := hcl.out h30
              subst h30 hr512
              replace hk := Lib.hid hk
              replace hY := Lib.hid hY
              have CC := Lib.hid (copied_any R Y y wq hY.out (by rw [hk.out]; omega))
              rw [hk.out] at CC
              clear hcl
              go_wp2_with fail
              refine CC.out.mono ?_
              rintro e wr ⟨C, cc, rfl, oC, bC⟩
              obtain ⟨gc, rfl, hgc, hgc2⟩ : ∃ gc, C = some ⟨gc, 0, none⟩ ∧ wq.heap.size ≤ gc ∧ gc < wr.heap.size := by
                rcases own_cases oC with ⟨_, h, _⟩ | ⟨gc, h1, h2, h3⟩
                · cases h
                · exact ⟨gc, h1, h2, h3⟩
              obtain ⟨j, hj, LJ⟩ := low_ex at0 512 (by omega) (by omega)
              replace LJ : Hid (∀ w : World, Calls Tryd.prog 18 #[.int .i64 at0, .int .i64 512] w fun e w' => e = .returned (.int .i64 j) ∧ w = w') := Lib.hid LJ
              obtain ⟨xb, hxb⟩ := u8_byte' by0 hb0 hb1
              have hcl := RetS.cap oC
              have q1 := oC.frozenAt j
              have q2 := oC.cellAt j (by omega)
              have hjl : j < R.length := by rw [hk.out]; exact hj
              obtain ⟨vv, hvv⟩ : ∃ vv, (bv R)[j]? = some vv := ⟨_, bv_get hjl⟩
              rw [hvv] at q2
              clear hvv
              have st := Lib.hid (oC.stored j (.int .u8 by0))
              obtain ⟨wt, hwt⟩ : ∃ W, wr.setCell ⟨gc, j, none⟩ (.int .u8 by0) = W := ⟨_, rfl⟩
              have HS : Hid (Rd wt (some ⟨gc, 0, none⟩) (bv (R.set j xb))) := Lib.hid (by
                have h := st.out.1
                rw [hwt] at h
                have h9 := Rd.of_own h
                rw [bv_set, hxb]
                exact h9)
              have hsl : Hid ((R.set j xb).length = 512) := Lib.hid (by rw [List.length_set]; exact hk.out)
              have bt : Below wq.heap.size wq wt := by rw [← hwt]; exact bC.setCell hgc _
              replace T := Lib.hid (T.out.below bt)
              have j0 : (0 : Int) ≤ (j : Int) := by omega
              have j1 : (j : Int) < 512 := by omega
              obtain ⟨Q, hQ⟩ : ∃ Q, R.set j xb = Q := ⟨_, rfl⟩
              rw [hQ] at HS hsl
              obtain ⟨F4, hF4⟩ : ∃ x, (lget Q).1.1 = x := ⟨_, rfl⟩
              obtain ⟨D4, hD4⟩ : ∃ x, (lget Q).1.2 = x := ⟨_, rfl⟩
              obtain ⟨E4, hE4⟩ : ∃ x, (lget Q).2 = x := ⟨_, rfl⟩
              have hl4 := lget_len Q
              have g4 : lget Q = ((F4, D4), E4) := by rw [← hF4, ← hD4, ← hE4]
              rw [hF4, hD4, hsl.out] at hl4
              have hl4a : F4.length ≤ 1000000 := by omega
              have hl4b : D4.length ≤ 1000000 := by omega
              have e4 : (E4 == E4) = true := beq_self_eq_true _
              clear hF4 hD4 hE4 hl4 hQ hxb st bt bC oC CC hk hY hgc hgc2 hjl
              replace g4 := Lib.hid g4
              replace hwt := Lib.hid hwt
              go_wp2_with fail
              refine (LJ.out _).mono ?_
              rintro e w' ⟨rfl, rfl⟩
              go_wp2_with fail
              rw [hwt.out]
              clear q1 q2 hwt LJ
              refine (get_to Q (some ⟨gc, 0, none⟩) 512 cc wt T.out.bk hsl.out HS.out hcl.1 hcl.2 (by omega) F4 D4 E4 g4.out).mono ?_
              rintro e wa5 ⟨Y5, y5, Z5, z5, rfl, hY5, hZ5, ba5⟩
              obtain ⟨p5, hp5⟩ : ∃ p, wa5.heap.size = p := ⟨_, rfl⟩
              obtain ⟨w5, hw5⟩ : ∃ W, wa5.alloc (.cells #[.slice Y5 F4.length y5, .slice Z5 D4.length z5] 25) = W := ⟨_, rfl⟩
              have bb5 : Below wt.heap.size wt w5 := by rw [← hw5]; exact ba5.alloc ba5.size _
              have N5 : Hid (Mg w5 p5 F4 D4 Y5 y5 Z5 z5) := Lib.hid (by rw [← hw5]; exact Mg.made hp5 hY5 hZ5)
              replace T := Lib.hid (T.out.below bb5)
              have HS5 := Lib.hid (HS.out.below bb5)
              clear ba5 bb5 hY5 hZ5
              replace hp5 := Lib.hid hp5
              replace hw5 := Lib.hid hw5
              go_wp2_with fail
              rw [hw5.out]
              try rw [hp5.out]
              refine (rget_to Q (some ⟨gc, 0, none⟩) 512 cc w5 hsl.out HS5.out hcl.1 hcl.2 (by omega) F4 D4 E4 g4.out).mono ?_
              rintro e wa6 ⟨Y6, y6, Z6, z6, rfl, hY6, hZ6, ba6⟩
              obtain ⟨p6, hp6⟩ : ∃ p, wa6.heap.size = p := ⟨_, rfl⟩
              obtain ⟨w6, hw6⟩ : ∃ W, wa6.alloc (.cells #[.slice Y6 F4.length y6, .slice Z6 D4.length z6] 25) = W := ⟨_, rfl⟩
              have bb6 : Below w5.heap.size w5 w6 := by rw [← hw6]; exact ba6.alloc ba6.size _
              have N6 : Hid (Mg w6 p6 F4 D4 Y6 y6 Z6 z6) := Lib.hid (by rw [← hw6]; exact Mg.made hp6 hY6 hZ6)
              replace T := Lib.hid (T.out.below bb6)
              replace N5 := Lib.hid (N5.out.below bb6)
              clear ba6 bb6 hY6 hZ6
              replace hp6 := Lib.hid hp6
              replace hw6 := Lib.hid hw6
              have m50 := N5.out.c0
              have m51 := N5.out.c1
              have m60 := N6.out.c0
              have m61 := N6.out.c1
              rw [← hw6.out] at m50 m51 m60 m61
              go_wp2_with fail
              rw [hw6.out]
              try rw [hp6.out]
              clear m50 m51 m60 m61
              refine (N5.out.same N6.out hl4a hl4b).mono ?_
              rintro e w9 ⟨rfl, b9⟩
              replace T := Lib.hid (T.out.below b9)
              clear b9 N5 N6 hw5 hw6 hp5 hp6 g4 hl4a hl4b
              go_wp2_with fail
              refine (awake_any _ T.out.bk).mono ?_
              rintro e wz ⟨rfl, bz⟩
              go_wp2_with fail
              go_ret
              exact fin2.out _ _ rfl (T.out.ab.below bz)
            · have t3 : (E3 != 0) = true := by simpa using h30
              clear hcl
              replace h30 := Lib.hid h30
              go_wp2_with fail
              refine (awake_any _ T.out.bk).mono ?_
              rintro e wz ⟨rfl, bz⟩
              go_wp2_with fail
              go_ret
              exact fin2.out _ _ rfl (T.out.ab.below bz)
end Go.Proofs.YtdldipkbknhhoaaDoor

/- LetterTells: what is wrong with a message in a bucket; it is true at every input. -/
namespace Go.Proofs.YtdldipkbknhhoaaDoor
open Go.RowKit

set_option maxRecDepth 100000 in
set_option maxHeartbeats 4000000 in
theorem lawfits_any (fs : List Fd) (D : List UInt8) (b : Int) (A B : Option Addr) (n c m d : Nat) (w : World) (h : MR w fs D A n B m) :
    Calls Tryd.prog 9 #[.agg #[.slice A n c, .slice B m d], .int .i64 b] w fun e w' => e = .returned (.int .i64 (ltE fs D b)) ∧ Below w.heap.size w w' := by
  obtain ⟨g, hg⟩ : ∃ g, w.heap.size = g := ⟨_, rfl⟩
  obtain ⟨w1, hw1⟩ : ∃ W, w.alloc (.cells #[.slice A n c, .slice B m d] 25) = W := ⟨_, rfl⟩
  have b1 : Hid (Below w.heap.size w w1) := Lib.hid (by rw [← hw1]; exact (Below.refl _ w).alloc (Nat.le_refl _) _)
  have M1 : Hid (Msg w1 g fs D A n c B m d) := Lib.hid (by rw [← hw1]; exact h.alloc hg)
  replace hw1 := Lib.hid hw1
  replace hg := Lib.hid hg
  clear h
  obtain ⟨v, hv⟩ : ∃ v, bok b = v := ⟨_, rfl⟩
  have CB : Hid (∀ W, Calls Tryd.prog 13 #[.int .i64 b] W fun e w' => e = .returned (.bool v) ∧ W = w') := Lib.hid (fun W => by rw [← hv]; exact refbucket_any b W)
  have CR := Lib.hid (rbare_any fs D A B n c m d w1 M1.out.r)
  obtain ⟨P, hP⟩ : ∃ P, (ltplain fs D).1 = P := ⟨_, rfl⟩
  obtain ⟨F, hF⟩ : ∃ F, (ltplain fs D).2 = F := ⟨_, rfl⟩
  obtain ⟨pn, hpn⟩ : ∃ pn, P.length = pn := ⟨_, rfl⟩
  obtain ⟨R, hR⟩ : ∃ R, ltE fs D b = R := ⟨_, rfl⟩
  have hRR : R = if v = false then 13 else if F ≠ 0 then F else if ltfits pn b = false then 4 else 0 := by rw [← hR]; unfold ltE; rw [hv, hP, hF, hpn]
  unfold RetP at CR
  rw [hP, hF, hpn] at CR
  rw [hR]
  replace hP := Lib.hid hP
  replace hF := Lib.hid hF
  replace hpn := Lib.hid hpn
  replace hR := Lib.hid hR
  have x0 := M1.out.c0
  have x1 := M1.out.c1
  cases v with
  | false =>
    replace hRR := Lib.hid hRR
    go_enter Tryd.func9, Tryd.ntmps9
    go_wp2_with fail
    rw [hw1.out]
    try rw [hg.out]
    refine (CB.out _).mono ?_
    rintro e w' ⟨rfl, rfl⟩
    go_wp2_with fail
    go_ret
    exact ⟨by rw [hRR.out]; rfl, b1.out⟩
  | true =>
    rw [if_neg (by decide)] at hRR
    have hbd := bok_bd hv
    have q2 : IntKind.i64.wrap (b - 2) = b - 2 := by rw [IntKind.wrap_i64]; omega
    replace hv := Lib.hid hv
    by_cases hF0 : F = 0
    · subst hF0
      rw [if_neg (by decide)] at hRR
      have t0 : ((0 : Int) == 0) = true := rfl
      by_cases hE : (pn : Int) = b
      · have t1 : ((pn : Int) != b) = false := by rw [hE]; exact bne_self_eq_false _
        have hR0 : Hid (R = 0) := Lib.hid (by rw [hRR, if_neg (by unfold ltfits; simp [hE])])
        replace hRR := Lib.hid hRR
        replace hE := Lib.hid hE
        go_enter Tryd.func9, Tryd.ntmps9
        go_wp2_with fail
        rw [hw1.out]
        try rw [hg.out]
        refine (CB.out _).mono ?_
        rintro e w' ⟨rfl, rfl⟩
        go_wp2_with fail
        refine CR.out.mono ?_
        rintro e w2 ⟨A2, c2, rfl, o2, b2⟩
        clear o2
        go_wp2_with fail
        go_ret
        exact ⟨by rw [hR0.out]; rfl, b1.out.trans (b2.mono b1.out.size)⟩
      · have t1 : ((pn : Int) != b) = true := by simpa using hE
        obtain ⟨t, ht⟩ : ∃ t, decide (b - 2 < (pn : Int)) = t := ⟨_, rfl⟩
        have hR0 : Hid (R = if t then 4 else 0) := Lib.hid (by
          rw [hRR]
          have e : ltfits pn b = !t := by
            unfold ltfits
            rw [← ht, ← decide_not]
            exact decide_eq_decide.2 (by omega)
          rw [e]
          cases t <;> simp)
        replace hRR := Lib.hid hRR
        replace hE := Lib.hid hE
        cases t
        all_goals
          go_enter Tryd.func9, Tryd.ntmps9
          go_wp2_with fail
          rw [hw1.out]
          try rw [hg.out]
          refine (CB.out _).mono ?_
          rintro e w' ⟨rfl, rfl⟩
          go_wp2_with fail
          refine CR.out.mono ?_
          rintro e w2 ⟨A2, c2, rfl, o2, b2⟩
          clear o2
          go_wp2_with fail
          go_ret
          exact ⟨by rw [hR0.out]; rfl, b1.out.trans (b2.mono b1.out.size)⟩
    · rw [if_pos hF0] at hRR
      have t0 : (F == 0) = false := beq_eq_false_iff_ne.2 hF0
      replace hF0 := Lib.hid hF0
      replace hRR := Lib.hid hRR
      go_enter Tryd.func9, Tryd.ntmps9
      go_wp2_with fail
      rw [hw1.out]
      try rw [hg.out]
      refine (CB.out _).mono ?_
      rintro e w' ⟨rfl, rfl⟩
      go_wp2_with fail
      refine CR.out.mono ?_
      rintro e w2 ⟨A2, c2, rfl, o2, b2⟩
      clear o2
      go_wp2_with fail
      go_ret
      exact ⟨by rw [hRR.out]; rfl, b1.out.trans (b2.mono b1.out.size)⟩
def kkf : Nat → Int | 0 => 1024 | 1 => 512 | 2 => 256 | _ => 128
def lsf (fs : List Fd) (D : List UInt8) : Nat → Int
  | 0 => 0
  | j + 1 => if ltE fs D (kkf j) = 0 then kkf j else lsf fs D j
theorem ltE_zero (fs : List Fd) (D : List UInt8) (b : Int) (hb : bok b = true) : (ltE fs D b = 0) ↔ ((ltplain fs D).2 = 0 ∧ ltfits (ltplain fs D).1.length b = true) := by
  unfold ltE
  rw [if_neg (by rw [hb]; simp)]
  by_cases h : (ltplain fs D).2 = 0
  · rw [if_neg (by rw [h]; simp)]
    cases ltfits (ltplain fs D).1.length b <;> simp [h]
  · rw [if_pos h]
    simp [h]
theorem lsf_least (fs : List Fd) (D : List UInt8) : lsf fs D 3 = ltleast fs D := by
  have e0 := ltE_zero fs D 256 (by decide)
  have e1 := ltE_zero fs D 512 (by decide)
  have e2 := ltE_zero fs D 1024 (by decide)
  simp only [lsf, kkf, ltleast]
  by_cases h : (ltplain fs D).2 = 0
  · have f0 : (ltE fs D 256 = 0) ↔ ltfits (ltplain fs D).1.length 256 = true := by rw [e0]; simp [h]
    have f1 : (ltE fs D 512 = 0) ↔ ltfits (ltplain fs D).1.length 512 = true := by rw [e1]; simp [h]
    have f2 : (ltE fs D 1024 = 0) ↔ ltfits (ltplain fs D).1.length 1024 = true := by rw [e2]; simp [h]
    simp only [f0, f1, f2, h, ne_eq, not_true_eq_false, if_false]
  · have f0 : ¬ (ltE fs D 256 = 0) := by rw [e0]; simp [h]
    have f1 : ¬ (ltE fs D 512 = 0) := by rw [e1]; simp [h]
    have f2 : ¬ (ltE fs D 1024 = 0) := by rw [e2]; simp [h]
    rw [if_neg f0, if_neg f1, if_neg f2, if_pos h]
set_option maxRecDepth 100000 in
set_option maxHeartbeats 8000000 in
theorem tells_any (z : List Fd) (l : List UInt8) (b0 : Int) (Af Ab : Option Addr) (nf cf m d : Nat) (w : World) (hbk : BK w) (hi : MsgIn w Af nf cf Ab m d z l) :
    Calls Tryd.prog 3 #[.agg #[.slice Af nf cf, .slice Ab m d], .int .i64 b0] w (ReadsGo w) := by
  obtain ⟨g, hg⟩ : ∃ g, w.heap.size = g := ⟨_, rfl⟩
  obtain ⟨w1, hw1⟩ : ∃ W, w.alloc (.cells #[.slice Af nf cf, .slice Ab m d] 25) = W := ⟨_, rfl⟩
  have b1 : Below w.heap.size w w1 := by rw [← hw1]; exact (Below.refl _ w).alloc (Nat.le_refl _) _
  have h1 : Hid (w1.heap[g]? = some (.cells #[.slice Af nf cf, .slice Ab m d] 25 (0, 0))) := Lib.hid (by rw [← hw1, ← hg]; exact heap_alloc_new w _)
  have x0 := wrote_cell h1.out 0 _ rfl
  have x1 := wrote_cell h1.out 1 _ rfl
  rw [← hw1] at x0 x1
  have hi1 : MsgIn w1 Af nf cf Ab m d z l := ⟨hi.ln, hi.rf.below b1, hi.nc, hi.cc, hi.hs, hi.lm, hi.rb.below b1, hi.md, hi.dd⟩
  have GT := Lib.hid (great_any z l Af Ab nf cf m d w1 hi1)
  have hbk1 := Lib.hid (hbk.below b1)
  have Hi := Lib.hid hi1
  replace b1 := Lib.hid b1
  replace hw1 := Lib.hid hw1
  clear hi hi1 hbk
  have fin : Hid (∀ e W, e = .returned (.bool true) → Below w1.heap.size w1 W → ReadsGo w e W) := Lib.hid (fun e W h b => ⟨h, b1.out.trans (b.mono b1.out.size)⟩)
  go_enter Tryd.func3, Tryd.ntmps3
  go_wp2_with fail
  rw [hw1.out]
  refine GT.out.mono ?_
  rintro e w2 ⟨⟨v, rfl, hv⟩, b2⟩
  clear GT
  cases v with
  | true =>
    clear x0 x1
    go_wp2_with fail
    refine (awake_any _ (hbk1.out.below b2)).mono ?_
    rintro e w3 ⟨rfl, b3⟩
    go_wp2_with fail
    go_ret
    exact fin.out _ _ rfl (b2.trans (b3.mono b2.size))
  | false =>
    obtain ⟨hv1, hv2, hv3⟩ := hv rfl
    have M : Hid (Msg w2 g z l Af nf cf Ab m d) := Lib.hid ⟨heap_fr h1.out (Fr.of_below b2 NoS) (fun x => x), (Hi.out.rf.below b2), (Hi.out.rb.below b2), Hi.out.ln, Hi.out.lm, by omega, by omega, fun f hf => by have := hv3 f hf; omega⟩
    have hbk2 := Lib.hid (hbk1.out.below b2)
    have bb := Lib.hid b2
    clear x0 x1 h1 Hi hbk1 hw1 hv hv1 hv2 hv3 b2
    go_wp2_with fail
    go_loopw [5, 6] (fun s k W => ∃ j : Nat, j ≤ 3 ∧ s = .int .i64 (lsf z l j) ∧ k = .int .i64 (kkf j) ∧ Hid (Msg W g z l Af nf cf Ab m d) ∧ Hid (BK W) ∧ Hid (Below w1.heap.size w1 W)) (fun _ k _ => (intOf k).toNat)
    case atStart => exact ⟨0, by omega, rfl, rfl, M, hbk2, bb⟩
    case round =>
      clear M hbk2 bb
      obtain ⟨j, hj, rfl, rfl, M, hbk2, bb⟩ := hrel
      obtain ⟨LS, hLS⟩ : ∃ LS, lsf z l j = LS := ⟨_, rfl⟩
      rw [hLS]
      by_cases hj3 : j < 3
      · rename_i aa
        clear aa
        obtain ⟨K, hK⟩ : ∃ K, kkf j = K := ⟨_, rfl⟩
        obtain ⟨K2, hK2⟩ : ∃ K2, kkf (j + 1) = K2 := ⟨_, rfl⟩
        have hKK : 256 ≤ K ∧ K ≤ 1024 ∧ K.tdiv 2 = K2 ∧ 128 ≤ K2 ∧ K2 < K ∧ K2 ≤ 512 := by
          rw [← hK, ← hK2]
          match j, hj3 with
          | 0, _ => decide
          | 1, _ => decide
          | 2, _ => decide
        obtain ⟨k1, k2, k3, k4, k5, k6⟩ := hKK
        have t0 : decide ((256 : Int) ≤ K) = true := decide_eq_true k1
        have q1 : IntKind.i64.wrap (K.tdiv 2) = K2 := by rw [k3, IntKind.wrap_i64]; omega
        have q2 : K / 2 = K2 := by rw [← k3]; exact (Int.tdiv_eq_ediv_of_nonneg (by omega)).symm
        obtain ⟨E, hE⟩ : ∃ E, ltE z l K = E := ⟨_, rfl⟩
        have CF := Lib.hid (lawfits_any z l K Af Ab nf cf m d wr M.out.r)
        rw [hE] at CF
        have x0 := M.out.c0
        have x1 := M.out.c1
        have hls : Hid (∀ t : Bool, (E == 0) = t → lsf z l (j + 1) = if t then K else LS) := Lib.hid (fun t ht => by
          show (if ltE z l (kkf j) = 0 then kkf j else lsf z l j) = _
          rw [hK, hE, hLS, ← ht]
          by_cases h : E = 0 <;> simp [h])
        obtain ⟨t, ht⟩ : ∃ t, (E == 0) = t := ⟨_, rfl⟩
        replace hls := Lib.hid (hls.out t ht)
        rw [hK]
        replace hK := Lib.hid hK
        replace hK2 := Lib.hid hK2
        replace hE := Lib.hid hE
        replace hLS := Lib.hid hLS
        clear k3 k4
        cases t
        all_goals
          go_wp2_with fail
          refine CF.out.mono ?_
          rintro e w3 ⟨rfl, b3⟩
          clear CF x0 x1
          replace M := Lib.hid (M.out.below b3)
          replace hbk2 := Lib.hid (hbk2.out.below b3)
          replace bb := Lib.hid (bb.out.trans (b3.mono bb.out.size))
          clear b3
          go_wp2_with fail
          go_roundw
          case rel => exact ⟨j + 1, by omega, by rw [hls.out]; rfl, by rw [hK2.out], M, hbk2, bb⟩
          case measure => simp only [intOf]; omega
      · obtain rfl : j = 3 := by omega
        have hle := Lib.hid (lsf_least z l)
        rw [hLS] at hle
        have x0 := M.out.c0
        have x1 := M.out.c1
        obtain ⟨E, hE⟩ : ∃ E, ltE z l b0 = E := ⟨_, rfl⟩
        obtain ⟨v, hv⟩ : ∃ v, bok b0 = v := ⟨_, rfl⟩
        have t0 : decide ((256 : Int) ≤ 128) = false := by decide
        have e0 : (E != E) = false := bne_self_eq_false _
        have e1 : (LS != LS) = false := bne_self_eq_false _
        have e2 : (v != v) = false := bne_self_eq_false _
        rw [show kkf 3 = 128 from rfl]
        replace hLS := Lib.hid hLS
        go_wp2_with fail
        refine (M.out.r.put hbk2.out b0 E hE).mono ?_
        rintro e w3 ⟨R, Y, r, y, rfl, hk, hR, hY, hry, hyy, hr2, b3⟩
        clear x0 x1
        replace M := Lib.hid (M.out.below b3)
        replace hbk2 := Lib.hid (hbk2.out.below b3)
        replace bb := Lib.hid (bb.out.trans (b3.mono bb.out.size))
        have x0 := M.out.c0
        have x1 := M.out.c1
        have CF := Lib.hid (lawfits_any z l b0 Af Ab nf cf m d w3 M.out.r)
        rw [hE] at CF
        replace hk := Lib.hid hk
        replace hY := Lib.hid hY
        replace hR := Lib.hid hR
        replace hE := Lib.hid hE
        clear b3 t0
        go_wp2_with fail
        refine CF.out.mono ?_
        rintro e w4 ⟨rfl, b4⟩
        clear CF x0 x1
        replace M := Lib.hid (M.out.below b4)
        replace hbk2 := Lib.hid (hbk2.out.below b4)
        replace bb := Lib.hid (bb.out.trans (b4.mono bb.out.size))
        replace hY := Lib.hid (hY.out.below b4)
        have x0 := M.out.c0
        have x1 := M.out.c1
        clear b4
        go_wp2_with fail
        refine (M.out.r.fits hbk2.out LS hle.out.symm).mono ?_
        rintro e w5 ⟨rfl, b5⟩
        clear x0 x1
        replace M := Lib.hid (M.out.below b5)
        replace hbk2 := Lib.hid (hbk2.out.below b5)
        replace bb := Lib.hid (bb.out.trans (b5.mono bb.out.size))
        replace hY := Lib.hid (hY.out.below b5)
        clear b5
        have CB := bucket_any b0 w5 hbk2.out
        have CR := Lib.hid (refbucket_any b0 w5)
        rw [hv] at CB CR
        replace hv := Lib.hid hv
        go_wp2_with fail
        refine CB.mono ?_
        rintro e w' ⟨rfl, rfl⟩
        clear CB
        go_wp2_with fail
        refine CR.out.mono ?_
        rintro e w' ⟨rfl, rfl⟩
        clear CR
        by_cases hE0 : E = 0
        · subst hE0
          have hrb : (r : Int) = b0 := by rw [← hk.out]; exact (hR.out.2 hE.out).1
          have hD := M.out.r.lm
          have hln := M.out.r.ln
          have hget := Lib.hid (lget_put (by have := M.out.r.bm; omega) hE.out hR.out)
          subst hrb
          have t1 : ((r : Int) == (r : Int)) = true := beq_self_eq_true _
          have CX := Lib.hid (fun W (h : BK W) (h2 : Rd W Y (bv R)) => get_to R Y r y W h hk.out h2 hry hyy (by omega) z l 0 hget.out)
          have CY := Lib.hid (fun W (h2 : Rd W Y (bv R)) => rget_to R Y r y W hk.out h2 hry hyy (by omega) z l 0 hget.out)
          replace hD := Lib.hid hD
          replace hln := Lib.hid hln
          clear hR hE hget
          go_wp2_with fail
          refine (CX.out _ hbk2.out hY.out).mono ?_
          rintro e wa6 ⟨Y6, y6, Z6, z6, rfl, hY6, hZ6, ba6⟩
          rw [hln.out, hD.out]
          have Q6 : MR wa6 z l Y6 nf Z6 m := ⟨hY6, hZ6, hln.out, hD.out, M.out.r.bn, M.out.r.bm, M.out.r.hs⟩
          obtain ⟨p6, hp6⟩ : ∃ p, wa6.heap.size = p := ⟨_, rfl⟩
          obtain ⟨w6, hw6⟩ : ∃ W, wa6.alloc (.cells #[.slice Y6 nf y6, .slice Z6 m z6] 25) = W := ⟨_, rfl⟩
          have bb6 : Below w5.heap.size w5 w6 := by rw [← hw6]; exact ba6.alloc ba6.size _
          have N6 : Hid (Msg w6 p6 z l Y6 nf y6 Z6 m z6) := Lib.hid (by rw [← hw6]; exact Q6.alloc hp6)
          replace M := Lib.hid (M.out.below bb6)
          replace hbk2 := Lib.hid (hbk2.out.below bb6)
          replace hY := Lib.hid (hY.out.below bb6)
          replace bb := Lib.hid (bb.out.trans (bb6.mono bb.out.size))
          clear ba6 bb6 hY6 hZ6 Q6
          replace hp6 := Lib.hid hp6
          replace hw6 := Lib.hid hw6
          go_wp2_with fail
          rw [hw6.out]
          try rw [hp6.out]
          refine (CY.out _ hY.out).mono ?_
          rintro e wa7 ⟨Y7, y7, Z7, z7, rfl, hY7, hZ7, ba7⟩
          rw [hln.out, hD.out]
          have Q7 : MR wa7 z l Y7 nf Z7 m := ⟨hY7, hZ7, hln.out, hD.out, M.out.r.bn, M.out.r.bm, M.out.r.hs⟩
          obtain ⟨p7, hp7⟩ : ∃ p, wa7.heap.size = p := ⟨_, rfl⟩
          obtain ⟨w7, hw7⟩ : ∃ W, wa7.alloc (.cells #[.slice Y7 nf y7, .slice Z7 m z7] 25) = W := ⟨_, rfl⟩
          have bb7 : Below w6.heap.size w6 w7 := by rw [← hw7]; exact ba7.alloc ba7.size _
          have N7 : Hid (Msg w7 p7 z l Y7 nf y7 Z7 m z7) := Lib.hid (by rw [← hw7]; exact Q7.alloc hp7)
          replace M := Lib.hid (M.out.below bb7)
          replace hbk2 := Lib.hid (hbk2.out.below bb7)
          replace hY := Lib.hid (hY.out.below bb7)
          replace N6 := Lib.hid (N6.out.below bb7)
          replace bb := Lib.hid (bb.out.trans (bb7.mono bb.out.size))
          clear ba7 bb7 hY7 hZ7 Q7
          replace hp7 := Lib.hid hp7
          replace hw7 := Lib.hid hw7
          have m0 := M.out.c0
          have m1 := M.out.c1
          have n60 := N6.out.c0
          have n61 := N6.out.c1
          have n70 := N7.out.c0
          have n71 := N7.out.c1
          rw [← hw7.out] at m0 m1 n60 n61 n70 n71
          go_wp2_with fail
          rw [hw7.out]
          try rw [hp7.out]
          refine (N6.out.r.same M.out.r true (by simp)).mono ?_
          rintro e w8 ⟨rfl, b8⟩
          clear m0 m1 n60 n61 n70 n71
          replace M := Lib.hid (M.out.below b8)
          replace hbk2 := Lib.hid (hbk2.out.below b8)
          replace N7 := Lib.hid (N7.out.below b8)
          replace bb := Lib.hid (bb.out.trans (b8.mono bb.out.size))
          have m0 := M.out.c0
          have m1 := M.out.c1
          have n70 := N7.out.c0
          have n71 := N7.out.c1
          clear b8
          go_wp2_with fail
          refine (N7.out.r.same M.out.r true (by simp)).mono ?_
          rintro e w9 ⟨rfl, b9⟩
          clear m0 m1 n70 n71
          replace hbk2 := Lib.hid (hbk2.out.below b9)
          replace bb := Lib.hid (bb.out.trans (b9.mono bb.out.size))
          clear b9
          go_wp2_with fail
          refine (awake_any _ hbk2.out).mono ?_
          rintro e wz ⟨rfl, bz⟩
          go_wp2_with fail
          go_ret
          exact fin.out _ _ rfl (bb.out.trans (bz.mono bb.out.size))
        · have t1 : (E != 0) = true := by simpa using hE0
          have hr0 : r = 0 := by rw [← hk.out, hR.out.1 (by rw [hE.out]; exact hE0)]; rfl
          subst hr0
          replace hE0 := Lib.hid hE0
          clear hk hR hY hE
          go_wp2_with fail
          refine (awake_any _ hbk2.out).mono ?_
          rintro e w9 ⟨rfl, b9⟩
          go_wp2_with fail
          go_ret
          exact fin.out _ _ rfl (bb.out.trans (b9.mono bb.out.size))
end Go.Proofs.YtdldipkbknhhoaaDoor
