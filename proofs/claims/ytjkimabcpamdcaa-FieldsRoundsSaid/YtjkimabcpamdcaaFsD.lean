/- The document's fields: line. (Printed by gen_fsD.py.) -/
import Derived.Test.YtjkimabcpamdcaaFsC
import Derived.Deep.CutRange
import Derived.Deep.Cut
import Derived.Deep.CutBlock
namespace Go.Proofs.Ytjkimabcpamdcaa
open Go.RowKit

/-- What line keeps: the block of its result, that of its field, the bytes. -/
structure RL (w0 W : World) (g q : Nat) (A : Option Addr) (l : List UInt8) (x y : ByteArray) : Prop where
  res : HasRow W g 24 #[.string ⟨#[]⟩, .string ⟨#[]⟩]
  fld : HasRow W q 24 #[.string x, .string y]
  rd : Rd W A (bv l)
  bel : Below w0.heap.size w0 W
  lt : g < q
  ge : w0.heap.size ≤ g
  far : ∀ a, A = some a → a.block < w0.heap.size
section
variable {w0 W : World} {g q : Nat} {A : Option Addr} {l : List UInt8} {x y : ByteArray}
theorem below_setQ {w0 W : World} {k i : Nat} (b : Below w0.heap.size w0 W) (h : w0.heap.size ≤ k) (hlt : w0.heap.size ≤ W.heap.size) (v : Value) : Below w0.heap.size w0 (W.setCell ⟨k, i, none⟩ v) :=
  Fr.under b hlt ((Fr.refl (fun j => j = k) W).setCell (p := ⟨k, i, none⟩) (fun _ => rfl) v) (fun j hj _ => by omega)
theorem RL.fin (h : RL w0 W g q A l x y) (u v : Value) : HasRow ((W.setCell ⟨g, 0, none⟩ u).setCell ⟨g, 1, none⟩ v) g 24 #[u, v] ∧ Below w0.heap.size w0 ((W.setCell ⟨g, 0, none⟩ u).setCell ⟨g, 1, none⟩ v) :=
  ⟨h.res.set2 u v, below_setQ (below_setQ h.bel h.ge h.bel.size u) h.ge (below_setQ (k := g) (i := 0) h.bel h.ge h.bel.size u).size v⟩
theorem RL.put0 (h : RL w0 W g q A l x y) (a : ByteArray) : RL w0 (W.setCell ⟨q, 0, none⟩ (.string a)) g q A l a y :=
  ⟨h.res.other (by have := h.lt; omega) 0 _, heap_setCell_same W q 0 _ _ (.string a) h.fld, h.rd.fr (frp_cell W q 0 (.string a)) (fun _ b hb e => by have := h.far b hb; have := h.lt; have := h.ge; omega), below_setQ h.bel (by have := h.lt; have := h.ge; omega) h.bel.size _, h.lt, h.ge, h.far⟩
theorem RL.put1 (h : RL w0 W g q A l x y) (a : ByteArray) : RL w0 (W.setCell ⟨q, 1, none⟩ (.string a)) g q A l x a :=
  ⟨h.res.other (by have := h.lt; omega) 1 _, heap_setCell_same W q 1 _ _ (.string a) h.fld, h.rd.fr (frp_cell W q 1 (.string a)) (fun _ b hb e => by have := h.far b hb; have := h.lt; have := h.ge; omega), below_setQ h.bel (by have := h.lt; have := h.ge; omega) h.bel.size _, h.lt, h.ge, h.far⟩
end

set_option maxRecDepth 100000 in
set_option maxHeartbeats 8000000 in
theorem rline_any (x : UInt8) (r : List UInt8) (A : Option Addr) (n c : Nat) (w : World) (hr : Rd w A (bv (x :: r))) (hn : (x :: r).length = n) (hnc : n ≤ c) (hcc : c ≤ 9223372036854775807) (hsm : n ≤ 1000000) (fa fb : ByteArray) (lg er : Int) (hp : rln (x :: r) = (⟨fa, fb⟩, lg, er)) :
    Calls Try.prog 21 #[.slice A n c] w fun en w' => en = .returned (.tuple #[.agg #[.string fa, .string fb], .int .i64 lg, .int .i64 er]) ∧ Below w.heap.size w w' := by
  obtain ⟨bl, off, rfl, h0⟩ := hr.at_ (k := 0) (by simp)
  simp only [bv, List.map_cons, List.getElem_cons_zero, Nat.add_zero] at h0
  have hbl := World.block_lt_of_cell? w _ h0
  simp only at hbl
  have hn1 : 0 < n := by rw [← hn]; simp
  have hn1I : (0 : Int) < (n : Int) := by omega
  obtain ⟨g, hg⟩ : ∃ g, w.heap.size = g := ⟨_, rfl⟩
  have hr2 := Lib.hid hr
  replace h0 := Lib.hid h0
  clear hr
  rw [rln] at hp
  replace hp := Lib.hid hp
  go_enter Try.func21, Try.ntmps21
  go_wp2_with fail
  try rw [hg]
  have R1 := HasRow.new w 24 #[.string ⟨#[]⟩, .string ⟨#[]⟩]
  rw [hg] at R1
  have B1 := (Below.refl _ w).alloc (Nat.le_refl _) (.cells #[.string ⟨#[]⟩, .string ⟨#[]⟩] 24)
  have S1 := R1.lt
  refine (rfixed_far _).mono ?_
  rintro en w1 ⟨gF, rfl, hgF, rdF, b1⟩
  have S2 := b1.size
  have R2 := R1.below b1
  have B2 := B1.trans (b1.mono B1.size)
  obtain ⟨q, hq⟩ : ∃ q, w1.heap.size = q := ⟨_, rfl⟩
  have hgq : g < q := by omega
  obtain ⟨W1, hW1⟩ : ∃ W1, w1.alloc (.cells #[.string ⟨#[]⟩, .string ⟨#[]⟩] 24) = W1 := ⟨_, rfl⟩
  have R3 := HasRow.new w1 24 #[.string ⟨#[]⟩, .string ⟨#[]⟩]
  rw [hq] at R3
  have k0 := R3.cell 0 _ rfl
  have k1 := R3.cell 1 _ rfl
  have kz0 := R3.frozen 0
  have kz1 := R3.frozen 1
  have B3 := B2.alloc B2.size (.cells #[.string ⟨#[]⟩, .string ⟨#[]⟩] 24)
  have F3 : Fr (fun k => k = q) (w1.alloc (.cells #[.string ⟨#[]⟩, .string ⟨#[]⟩] 24)) W1 := by rw [← hW1]; exact Fr.refl _ _
  have HR : Hid (RL w W1 g q (some ⟨bl, off, none⟩) (x :: r) ⟨#[]⟩ ⟨#[]⟩) := Lib.hid ⟨(R2.alloc _).fr F3 (by omega), by rw [← hW1]; exact R3, (hr2.out.below B3).fr F3 (fun _ a ha e => by injection ha with ha; subst ha; simp only at e; omega), Fr.under B3 B3.size F3 (fun k hk _ => by omega), hgq, by omega, fun a ha => by injection ha with ha; subst ha; exact hbl⟩
  have HF : Hid (∀ (N : Nat) (a b : ByteArray), fixed[N]? = some (⟨a, b⟩ : Fd) → W1.cell? ⟨gF, N * 2, none⟩ = some (.string a) ∧ W1.cell? ⟨gF, N * 2 + 1, none⟩ = some (.string b)) := Lib.hid (fun N a b h => by
    obtain ⟨h1, h2⟩ := rdF N a b h
    have l1 := World.block_lt_of_cell? w1 _ h1
    have Fa : Fr (fun k => k = q) w1 W1 := ((Fr.refl (fun k => k = q) w1).alloc _).trans F3
    exact ⟨(Fa.cell (World.block_lt_of_cell? w1 _ h1) (by simp only at l1 ⊢; omega)).trans h1, (Fa.cell (World.block_lt_of_cell? w1 _ h2) (by simp only at l1 ⊢; omega)).trans h2⟩)
  have hx : W1.cell? ⟨bl, off, none⟩ = some (.int .u8 x.toNat) := by rw [HR.out.bel.cell (p := ⟨bl, off, none⟩) hbl]; exact h0.out
  replace hq := Lib.hid hq
  replace hW1 := Lib.hid hW1
  replace hg := Lib.hid hg
  clear k0 k1 kz0 kz1
  clear R1 B1 S1 hgF rdF b1 S2 R2 B2 R3 B3 F3
  go_upto_block 0 with fail
  rw [hq.out, hW1.out]
  obtain ⟨X, hX⟩ : ∃ X, x.toNat = X := ⟨_, rfl⟩
  rw [hX] at hx
  have hX256 : X < 256 := by rw [← hX]; exact x.toNat_lt
  replace hp := hp.out
  rw [hX] at hp
  replace hX := Lib.hid hX
  go_cut [7] from 8 to 109 (fun y wx => ∃ (k : Nat) (a : ByteArray), y = .int .i64 k ∧ k ≤ n ∧ Hid (RL w wx g q (some ⟨bl, off, none⟩) (x :: r) a ⟨#[]⟩) ∧ Hid (rtail (x :: r) a k = (⟨fa, fb⟩, lg, er)))
  case first =>
    have f0 := HR.out.fld.cell 0 _ rfl
    have f1 := HR.out.fld.cell 1 _ rfl
    have z0 := HR.out.fld.frozen 0
    have z1 := HR.out.fld.frozen 1
    have g0 := HR.out.res.cell 0 _ rfl
    have g1 := HR.out.res.cell 1 _ rfl
    have gz0 := HR.out.res.frozen 0
    have gz1 := HR.out.res.frozen 1
    by_cases c1 : X / 64 = 3
    · rw [if_pos c1] at hp
      have t1 : decide ((192 : Int) ≤ (X : Int)) = true := decide_eq_true (by omega)
      have t1' : decide (192 ≤ X) = true := decide_eq_true (by omega)
      clear c1
      have PG := rpget_any (x :: r) 6 (some ⟨bl, off, none⟩) c W1 (by omega) (by omega) HR.out.rd (by rw [hn]; omega)
      have hbd := pget_bd 6 (x :: r) (by omega) (by omega)
      rw [hn] at PG hbd
      unfold rnum at hp
      obtain ⟨N, hN⟩ : ∃ N, (pget 6 (x :: r)).1 = N := ⟨_, rfl⟩
      obtain ⟨M, hM⟩ : ∃ M, (pget 6 (x :: r)).2.1 = M := ⟨_, rfl⟩
      obtain ⟨E, hE⟩ : ∃ E, (pget 6 (x :: r)).2.2 = E := ⟨_, rfl⟩
      unfold ptup at PG
      rw [hN, hM, hE] at PG hp hbd
      replace hN := Lib.hid hN
      replace hM := Lib.hid hM
      replace hE := Lib.hid hE
      replace PG := Lib.hid PG
      by_cases hE0 : E = 0
      · obtain ⟨n0, n1, m1, m2⟩ := hbd hE0
        subst hE0
        simp only [ne_eq, not_true_eq_false, if_false] at hp
        by_cases h16 : 16 ≤ N
        · rw [if_pos h16] at hp
          simp only [ne_eq, show ¬ ((5 : Int) = 0) by omega, not_false_eq_true, if_true] at hp
          simp only [Prod.mk.injEq, Fd.mk.injEq, fdz] at hp
          obtain ⟨⟨rfl, rfl⟩, rfl, rfl⟩ := hp
          have d1 : decide (16 ≤ N) = true := decide_eq_true h16
          go_wp2_with fail
          refine PG.out.mono ?_
          rintro en w3 ⟨rfl, rfl⟩
          have HO := Lib.hid (HR.out.fin (.string ⟨#[]⟩) (.string ⟨#[]⟩))
          go_wp2_with fail
          refine bodyPost_ret (v := .tuple #[.agg #[.string ⟨#[]⟩, .string ⟨#[]⟩], .int .i64 0, .int .i64 5]) (res_ctt rfl _ _ ⟨g, 0, none⟩ _ rfl (loadF HO.out.1) rfl rfl) rfl ?_
          exact ⟨rfl, HO.out.2⟩
        · rw [if_neg h16] at hp
          simp only [ne_eq, not_true_eq_false, if_false] at hp
          obtain ⟨N, rfl⟩ : ∃ N' : Nat, N = N' := ⟨N.toNat, by omega⟩
          obtain ⟨M, rfl⟩ : ∃ M' : Nat, M = M' := ⟨M.toNat, by omega⟩
          simp only [Int.toNat_natCast] at hp
          have hN16 : N < 16 := by omega
          have d1 : decide (16 ≤ (N : Int)) = false := decide_eq_false h16
          have d1' : decide (16 ≤ N) = false := decide_eq_false (by omega)
          have hN16I : (N : Int) < 16 := by omega
          obtain ⟨⟨na, nb⟩, hf⟩ : ∃ f, fixed.getD N fdz = f := ⟨_, rfl⟩
          have hfx : fixed[N]? = some ⟨na, nb⟩ := by
            rw [List.getD_eq_getElem?_getD] at hf
            rw [List.getElem?_eq_getElem (show N < fixed.length from hN16)] at hf ⊢
            rw [← hf]; rfl
          rw [hf] at hp
          obtain ⟨y0, y1⟩ := HF.out N na nb hfx
          replace hf := Lib.hid hf
          replace hfx := Lib.hid hfx
          simp only [Prod.mk.injEq, Fd.mk.injEq] at hp
          obtain ⟨⟨rfl, rfl⟩, rfl, rfl⟩ := hp
          go_wp2_with fail
          refine PG.out.mono ?_
          rintro en w3 ⟨rfl, rfl⟩
          have HO := Lib.hid (HR.out.fin (.string na) (.string nb))
          go_wp2_with fail
          refine bodyPost_ret (v := .tuple #[.agg #[.string na, .string nb], .int .i64 M, .int .i64 0]) (res_ctt rfl _ _ ⟨g, 0, none⟩ _ rfl (loadF HO.out.1) rfl rfl) rfl ?_
          exact ⟨rfl, HO.out.2⟩
      · clear hbd
        rw [if_pos hE0] at hp
        simp only [ne_eq, hE0, not_false_eq_true, if_true] at hp
        simp only [Prod.mk.injEq, Fd.mk.injEq, fdz] at hp
        obtain ⟨⟨rfl, rfl⟩, rfl, rfl⟩ := hp
        have d1 : (E == 0) = false := by rw [beq_eq_false_iff_ne]; exact hE0
        have d1' : (E != 0) = true := by rw [bne_iff_ne]; exact hE0
        go_wp2_with fail
        refine PG.out.mono ?_
        rintro en w3 ⟨rfl, rfl⟩
        have HO := Lib.hid (HR.out.fin (.string ⟨#[]⟩) (.string ⟨#[]⟩))
        go_wp2_with fail
        refine bodyPost_ret (v := .tuple #[.agg #[.string ⟨#[]⟩, .string ⟨#[]⟩], .int .i64 0, .int .i64 E]) (res_ctt rfl _ _ ⟨g, 0, none⟩ _ rfl (loadF HO.out.1) rfl rfl) rfl ?_
        exact ⟨rfl, HO.out.2⟩
    · rw [if_neg c1] at hp
      have t1 : decide ((192 : Int) ≤ (X : Int)) = false := decide_eq_false (by omega)
      have t1' : decide (192 ≤ X) = false := decide_eq_false (by omega)
      clear c1
      by_cases c2 : X / 16 = 5
      · rw [if_pos c2] at hp
        have t2 : ((X : Int) / 16 == 5) = true := by rw [beq_iff_eq]; omega
        clear c2
        have PG := rpget_any (x :: r) 4 (some ⟨bl, off, none⟩) c W1 (by omega) (by omega) HR.out.rd (by rw [hn]; omega)
        have hbd := pget_bd 4 (x :: r) (by omega) (by omega)
        rw [hn] at PG hbd
        unfold rnum at hp
        obtain ⟨N, hN⟩ : ∃ N, (pget 4 (x :: r)).1 = N := ⟨_, rfl⟩
        obtain ⟨M, hM⟩ : ∃ M, (pget 4 (x :: r)).2.1 = M := ⟨_, rfl⟩
        obtain ⟨E, hE⟩ : ∃ E, (pget 4 (x :: r)).2.2 = E := ⟨_, rfl⟩
        unfold ptup at PG
        rw [hN, hM, hE] at PG hp hbd
        replace hN := Lib.hid hN
        replace hM := Lib.hid hM
        replace hE := Lib.hid hE
        replace PG := Lib.hid PG
        by_cases hE0 : E = 0
        · obtain ⟨n0, n1, m1, m2⟩ := hbd hE0
          subst hE0
          simp only [ne_eq, not_true_eq_false, if_false] at hp
          by_cases h16 : 16 ≤ N
          · rw [if_pos h16] at hp
            simp only [ne_eq, show ¬ ((5 : Int) = 0) by omega, not_false_eq_true, if_true] at hp
            simp only [Prod.mk.injEq, Fd.mk.injEq, fdz] at hp
            obtain ⟨⟨rfl, rfl⟩, rfl, rfl⟩ := hp
            have d1 : decide (16 ≤ N) = true := decide_eq_true h16
            go_wp2_with fail
            refine PG.out.mono ?_
            rintro en w3 ⟨rfl, rfl⟩
            have HO := Lib.hid (HR.out.fin (.string ⟨#[]⟩) (.string ⟨#[]⟩))
            go_wp2_with fail
            refine bodyPost_ret (v := .tuple #[.agg #[.string ⟨#[]⟩, .string ⟨#[]⟩], .int .i64 0, .int .i64 5]) (res_ctt rfl _ _ ⟨g, 0, none⟩ _ rfl (loadF HO.out.1) rfl rfl) rfl ?_
            exact ⟨rfl, HO.out.2⟩
          · rw [if_neg h16] at hp
            simp only [ne_eq, not_true_eq_false, if_false] at hp
            obtain ⟨N, rfl⟩ : ∃ N' : Nat, N = N' := ⟨N.toNat, by omega⟩
            obtain ⟨M, rfl⟩ : ∃ M' : Nat, M = M' := ⟨M.toNat, by omega⟩
            simp only [Int.toNat_natCast] at hp
            have hN16 : N < 16 := by omega
            have d1 : decide (16 ≤ (N : Int)) = false := decide_eq_false h16
            have d1' : decide (16 ≤ N) = false := decide_eq_false (by omega)
            have hN16I : (N : Int) < 16 := by omega
            obtain ⟨⟨na, nb⟩, hf⟩ : ∃ f, fixed.getD N fdz = f := ⟨_, rfl⟩
            have hfx : fixed[N]? = some ⟨na, nb⟩ := by
              rw [List.getD_eq_getElem?_getD] at hf
              rw [List.getElem?_eq_getElem (show N < fixed.length from hN16)] at hf ⊢
              rw [← hf]; rfl
            rw [hf] at hp
            obtain ⟨y0, y1⟩ := HF.out N na nb hfx
            replace hf := Lib.hid hf
            replace hfx := Lib.hid hfx
            have HR2 := Lib.hid (HR.out.put0 na)
            replace hp := Lib.hid hp
            have hMn : M ≤ n := by omega
            go_wp2_with fail
            refine PG.out.mono ?_
            rintro en w3 ⟨rfl, rfl⟩
            go_wp2_with fail
            go_meet
            exact ⟨M, na, rfl, hMn, HR2, hp⟩
        · clear hbd
          rw [if_pos hE0] at hp
          simp only [ne_eq, hE0, not_false_eq_true, if_true] at hp
          simp only [Prod.mk.injEq, Fd.mk.injEq, fdz] at hp
          obtain ⟨⟨rfl, rfl⟩, rfl, rfl⟩ := hp
          have d1 : (E == 0) = false := by rw [beq_eq_false_iff_ne]; exact hE0
          have d1' : (E != 0) = true := by rw [bne_iff_ne]; exact hE0
          go_wp2_with fail
          refine PG.out.mono ?_
          rintro en w3 ⟨rfl, rfl⟩
          have HO := Lib.hid (HR.out.fin (.string ⟨#[]⟩) (.string ⟨#[]⟩))
          go_wp2_with fail
          refine bodyPost_ret (v := .tuple #[.agg #[.string ⟨#[]⟩, .string ⟨#[]⟩], .int .i64 0, .int .i64 E]) (res_ctt rfl _ _ ⟨g, 0, none⟩ _ rfl (loadF HO.out.1) rfl rfl) rfl ?_
          exact ⟨rfl, HO.out.2⟩
      · rw [if_neg c2] at hp
        have t2 : ((X : Int) / 16 == 5) = false := by rw [beq_eq_false_iff_ne]; omega
        clear c2
        by_cases c3 : X / 16 = 2
        · rw [if_pos c3] at hp
          have t3 : ((X : Int) / 16 == 2) = true := by rw [beq_iff_eq]; omega
          clear c3
          have PG := rgettext_any (x :: r) 3 (some ⟨bl, off, none⟩) c W1 (by omega) (by omega) HR.out.rd (by rw [hn]; omega) (by rw [hn]; exact hnc) hcc
          have hbd := pgettext_bd 3 (x :: r) (by omega) (by omega)
          rw [hn] at PG hbd
          obtain ⟨⟨sl, M, E⟩, ht⟩ : ∃ t, pgettext 3 (x :: r) = t := ⟨_, rfl⟩
          unfold tpgettext at PG
          rw [ht] at PG hp hbd
          simp only at PG hp hbd
          obtain ⟨s, hs⟩ : ∃ s : ByteArray, (⟨sl.toArray⟩ : ByteArray) = s := ⟨_, rfl⟩
          have hss : s.size = sl.length := by rw [← hs]; simp [ByteArray.size]
          rw [hs] at PG hp
          replace ht := Lib.hid ht
          replace hs := Lib.hid hs
          replace PG := Lib.hid PG
          by_cases hE0 : E = 0
          · subst hE0
            simp only [ne_eq, not_true_eq_false, if_false] at hp
            have NM := Lib.hid (rname_any s W1 (by omega))
            obtain ⟨V, hV⟩ : ∃ V, nameok s = V := ⟨_, rfl⟩
            rw [hV] at hp NM
            replace hV := Lib.hid hV
            cases V with
            | false =>
              rw [if_pos rfl] at hp
              simp only [Prod.mk.injEq, Fd.mk.injEq, fdz] at hp
              obtain ⟨⟨rfl, rfl⟩, rfl, rfl⟩ := hp
              clear hbd hss
              go_wp2_with fail
              refine PG.out.mono ?_
              rintro en w3 ⟨rfl, rfl⟩
              go_wp2_with fail
              refine NM.out.mono ?_
              rintro en w3 ⟨rfl, rfl⟩
              have HO := Lib.hid (HR.out.fin (.string ⟨#[]⟩) (.string ⟨#[]⟩))
              go_wp2_with fail
              refine bodyPost_ret (v := .tuple #[.agg #[.string ⟨#[]⟩, .string ⟨#[]⟩], .int .i64 0, .int .i64 5]) (res_ctt rfl _ _ ⟨g, 0, none⟩ _ rfl (loadF HO.out.1) rfl rfl) rfl ?_
              exact ⟨rfl, HO.out.2⟩
            | true =>
              rw [if_neg (by simp)] at hp
              obtain ⟨M, rfl⟩ : ∃ M' : Nat, M = M' := ⟨M.toNat, by omega⟩
              simp only [Int.toNat_natCast] at hp
              have HR2 := Lib.hid (HR.out.put0 s)
              replace hp := Lib.hid hp
              have hMn : M ≤ n := by omega
              clear hbd hss
              go_wp2_with fail
              refine PG.out.mono ?_
              rintro en w3 ⟨rfl, rfl⟩
              go_wp2_with fail
              refine NM.out.mono ?_
              rintro en w3 ⟨rfl, rfl⟩
              go_wp2_with fail
              go_meet
              exact ⟨M, s, rfl, hMn, HR2, hp⟩
          · clear hbd hss
            rw [if_pos hE0] at hp
            simp only [Prod.mk.injEq, Fd.mk.injEq, fdz] at hp
            obtain ⟨⟨rfl, rfl⟩, rfl, rfl⟩ := hp
            have d1 : (E == 0) = false := by rw [beq_eq_false_iff_ne]; exact hE0
            have d1' : (E != 0) = true := by rw [bne_iff_ne]; exact hE0
            go_wp2_with fail
            refine PG.out.mono ?_
            rintro en w3 ⟨rfl, rfl⟩
            have HO := Lib.hid (HR.out.fin (.string ⟨#[]⟩) (.string ⟨#[]⟩))
            go_wp2_with fail
            refine bodyPost_ret (v := .tuple #[.agg #[.string ⟨#[]⟩, .string ⟨#[]⟩], .int .i64 0, .int .i64 E]) (res_ctt rfl _ _ ⟨g, 0, none⟩ _ rfl (loadF HO.out.1) rfl rfl) rfl ?_
            exact ⟨rfl, HO.out.2⟩
        · rw [if_neg c3] at hp
          have t3 : ((X : Int) / 16 == 2) = false := by rw [beq_eq_false_iff_ne]; omega
          clear c3
          simp only [Prod.mk.injEq, Fd.mk.injEq, fdz] at hp
          obtain ⟨⟨rfl, rfl⟩, rfl, rfl⟩ := hp
          have HO := Lib.hid (HR.out.fin (.string ⟨#[]⟩) (.string ⟨#[]⟩))
          go_wp2_with fail
          refine bodyPost_ret (v := .tuple #[.agg #[.string ⟨#[]⟩, .string ⟨#[]⟩], .int .i64 0, .int .i64 5]) (res_ctt rfl _ _ ⟨g, 0, none⟩ _ rfl (loadF HO.out.1) rfl rfl) rfl ?_
          exact ⟨rfl, HO.out.2⟩
  case rest =>
    clear hp HF hx HR hX256
    obtain ⟨k, a, rfl, hk, HR, HP⟩ := hcut
    have f0 := HR.out.fld.cell 0 _ rfl
    have f1 := HR.out.fld.cell 1 _ rfl
    have z0 := HR.out.fld.frozen 0
    have z1 := HR.out.fld.frozen 1
    have g0 := HR.out.res.cell 0 _ rfl
    have g1 := HR.out.res.cell 1 _ rfl
    have gz0 := HR.out.res.frozen 0
    have gz1 := HR.out.res.frozen 1
    have hp := HP.out
    unfold rtail at hp
    clear HP
    obtain ⟨X2, hX, hXc⟩ := cut_l (P := Try.prog) Try.underlying26 infoB (some ⟨bl, off, none⟩) n c k hk hnc
    have rdX := hXc.bytes' HR.out.rd hn hnc
    have PG := rgettext_any ((x :: r).drop k) 7 X2 (c - k) _ (by omega) (by omega) rdX (by rw [List.length_drop, hn]; omega) (by rw [List.length_drop, hn]; omega) (by omega)
    have hbd := pgettext_bd 7 ((x :: r).drop k) (by omega) (by omega)
    rw [List.length_drop, hn] at PG hbd
    obtain ⟨n2, hn2⟩ : ∃ n2, n - k = n2 := ⟨_, rfl⟩
    obtain ⟨c2, hc2⟩ : ∃ c2, c - k = c2 := ⟨_, rfl⟩
    rw [hn2, hc2] at hX PG
    rw [hn2] at hbd
    have hn2k : n2 + k = n := by omega
    obtain ⟨⟨sl, M, E⟩, ht⟩ : ∃ t, pgettext 7 ((x :: r).drop k) = t := ⟨_, rfl⟩
    unfold tpgettext at PG
    rw [ht] at PG hp hbd
    simp only at PG hp hbd
    obtain ⟨s, hs⟩ : ∃ s : ByteArray, (⟨sl.toArray⟩ : ByteArray) = s := ⟨_, rfl⟩
    obtain ⟨sz, hsz⟩ : ∃ sz, s.size = sz := ⟨_, rfl⟩
    have hss : sl.length = sz := by rw [← hsz, ← hs]; simp [ByteArray.size]
    rw [hs] at PG hp
    rw [hss] at hp hbd
    obtain ⟨hM0, hM1, hsl⟩ := hbd
    replace ht := Lib.hid ht
    replace hs := Lib.hid hs
    replace hss := Lib.hid hss
    replace hn2 := Lib.hid hn2
    replace hc2 := Lib.hid hc2
    replace PG := Lib.hid PG
    clear rdX hXc
    by_cases hE0 : E = 0
    · subst hE0
      simp only [ne_eq, not_true_eq_false, if_false] at hp
      by_cases h400 : 400 < sz
      · rw [if_pos h400] at hp
        simp only [Prod.mk.injEq, Fd.mk.injEq, fdz] at hp
        obtain ⟨⟨rfl, rfl⟩, rfl, rfl⟩ := hp
        have d1 : decide (400 < sz) = true := decide_eq_true h400
        have d1' : decide ((400 : Int) < (sz : Int)) = true := decide_eq_true (by omega)
        go_wp2_with fail
        refine PG.out.mono ?_
        rintro en w3 ⟨rfl, rfl⟩
        have HO := Lib.hid (HR.out.fin (.string ⟨#[]⟩) (.string ⟨#[]⟩))
        go_wp2_with fail
        refine bodyPost_ret (v := .tuple #[.agg #[.string ⟨#[]⟩, .string ⟨#[]⟩], .int .i64 0, .int .i64 4]) (res_ctt rfl _ _ ⟨g, 0, none⟩ _ rfl (loadF HO.out.1) rfl rfl) rfl ?_
        exact ⟨rfl, HO.out.2⟩
      · rw [if_neg h400] at hp
        have d1 : decide (400 < sz) = false := decide_eq_false h400
        have d1' : decide ((400 : Int) < (sz : Int)) = false := decide_eq_false (by omega)
        have VM := Lib.hid (fun W => rval_any s W (by omega))
        obtain ⟨V, hV⟩ : ∃ V, valok s = V := ⟨_, rfl⟩
        rw [hV] at hp VM
        replace hV := Lib.hid hV
        cases V with
        | false =>
          rw [if_pos rfl] at hp
          simp only [Prod.mk.injEq, Fd.mk.injEq, fdz] at hp
          obtain ⟨⟨rfl, rfl⟩, rfl, rfl⟩ := hp
          go_wp2_with fail
          refine PG.out.mono ?_
          rintro en w3 ⟨rfl, rfl⟩
          go_wp2_with fail
          refine (VM.out _).mono ?_
          rintro en w3 ⟨rfl, rfl⟩
          have HO := Lib.hid (HR.out.fin (.string ⟨#[]⟩) (.string ⟨#[]⟩))
          go_wp2_with fail
          refine bodyPost_ret (v := .tuple #[.agg #[.string ⟨#[]⟩, .string ⟨#[]⟩], .int .i64 0, .int .i64 5]) (res_ctt rfl _ _ ⟨g, 0, none⟩ _ rfl (loadF HO.out.1) rfl rfl) rfl ?_
          exact ⟨rfl, HO.out.2⟩
        | true =>
          rw [if_neg (by simp)] at hp
          obtain ⟨M, rfl⟩ : ∃ M' : Nat, M = M' := ⟨M.toNat, by omega⟩
          simp only [Prod.mk.injEq, Fd.mk.injEq] at hp
          obtain ⟨⟨rfl, rfl⟩, rfl, rfl⟩ := hp
          have HR2 := Lib.hid (HR.out.put1 s)
          have u0 := HR2.out.fld.cell 0 _ rfl
          have u1 := HR2.out.fld.cell 1 _ rfl
          have ug0 := HR2.out.res.cell 0 _ rfl
          have ug1 := HR2.out.res.cell 1 _ rfl
          have ugz0 := HR2.out.res.frozen 0
          have ugz1 := HR2.out.res.frozen 1
          have HO := Lib.hid (HR2.out.fin (.string a) (.string s))
          go_wp2_with fail
          refine PG.out.mono ?_
          rintro en w3 ⟨rfl, rfl⟩
          go_wp2_with fail
          refine (VM.out _).mono ?_
          rintro en w3 ⟨rfl, rfl⟩
          go_wp2_with fail
          refine bodyPost_ret (v := .tuple #[.agg #[.string a, .string s], .int .i64 ((k : Int) + M), .int .i64 0]) (res_ctt rfl _ _ ⟨g, 0, none⟩ _ rfl (loadF HO.out.1) rfl rfl) rfl ?_
          exact ⟨rfl, HO.out.2⟩
    · rw [if_pos hE0] at hp
      simp only [Prod.mk.injEq, Fd.mk.injEq, fdz] at hp
      obtain ⟨⟨rfl, rfl⟩, rfl, rfl⟩ := hp
      have d1 : (E == 0) = false := by rw [beq_eq_false_iff_ne]; exact hE0
      have d1' : (E != 0) = true := by rw [bne_iff_ne]; exact hE0
      go_wp2_with fail
      refine PG.out.mono ?_
      rintro en w3 ⟨rfl, rfl⟩
      have HO := Lib.hid (HR.out.fin (.string ⟨#[]⟩) (.string ⟨#[]⟩))
      go_wp2_with fail
      refine bodyPost_ret (v := .tuple #[.agg #[.string ⟨#[]⟩, .string ⟨#[]⟩], .int .i64 0, .int .i64 E]) (res_ctt rfl _ _ ⟨g, 0, none⟩ _ rfl (loadF HO.out.1) rfl rfl) rfl ?_
      exact ⟨rfl, HO.out.2⟩
end Go.Proofs.Ytjkimabcpamdcaa
