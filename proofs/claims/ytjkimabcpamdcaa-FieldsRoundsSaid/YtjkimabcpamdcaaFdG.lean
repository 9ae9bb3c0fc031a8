/- fields: the reader: line. -/
import Derived.Test.YtjkimabcpamdcaaFdF
namespace Go.Proofs.Ytjkimabcpamdcaa
open Go.RowKit

def pln : List UInt8 → List UInt8 × Int × Fd
  | [] => ([], 5, fdz)
  | x :: r =>
    if x.toNat / 64 = 3 then pnum 6 (x :: r)
    else if x.toNat / 16 = 5 then ((pval (pnum 4 (x :: r)).1 (pnum 4 (x :: r)).2.1).1, (pval (pnum 4 (x :: r)).1 (pnum 4 (x :: r)).2.1).2.1, ⟨(pnum 4 (x :: r)).2.2.name, (pval (pnum 4 (x :: r)).1 (pnum 4 (x :: r)).2.1).2.2⟩)
    else if x.toNat / 16 = 2 then
      ((pval (ptxt 3 (x :: r) 0).1 (if (ptxt 3 (x :: r) 0).2.1 = 0 ∧ nameok (ptxt 3 (x :: r) 0).2.2 = false then 5 else (ptxt 3 (x :: r) 0).2.1)).1,
       (pval (ptxt 3 (x :: r) 0).1 (if (ptxt 3 (x :: r) 0).2.1 = 0 ∧ nameok (ptxt 3 (x :: r) 0).2.2 = false then 5 else (ptxt 3 (x :: r) 0).2.1)).2.1,
       ⟨(ptxt 3 (x :: r) 0).2.2, (pval (ptxt 3 (x :: r) 0).1 (if (ptxt 3 (x :: r) 0).2.1 = 0 ∧ nameok (ptxt 3 (x :: r) 0).2.2 = false then 5 else (ptxt 3 (x :: r) 0).2.1)).2.2⟩)
    else ((pval (x :: r) 5).1, (pval (x :: r) 5).2.1, ⟨⟨#[]⟩, (pval (x :: r) 5).2.2⟩)

theorem fld0 (a b : ByteArray) (w : World) : (Instr.field 24 (.agg #[.string a, .string b]) 0).run Try.prog w = .ok (.string a) w := rfl
section
variable {w w' : World} {p : Nat} {A : Option Addr} {n c : Nat} {r : List UInt8} {x : UInt8}
set_option maxRecDepth 100000 in
set_option maxHeartbeats 8000000 in
theorem line2_any (h : Rdr w p A n c (x :: r) 0) (B : Nat) (hB : ∀ a, A = some a → a.block < B) (l' : List UInt8) (e1 : Int) (fa fb : ByteArray) (hp : pln (x :: r) = (l', e1, ⟨fa, fb⟩)) :
    Calls Try.prog 20 #[.pointer (some ⟨p, 0, none⟩)] w fun en w' => en = .returned (.agg #[.string fa, .string fb]) ∧ RdrB B w' p l' e1 ∧ Fr (fun k => k = p) w w' := by
  have hplt := h.row.lt
  have B1 := (Below.refl _ w).alloc (Nat.le_refl _) (.cells #[.string ⟨#[]⟩, .string ⟨#[]⟩] 24)
  have B2 := B1.alloc B1.size (.cells #[.string ⟨#[]⟩, .string ⟨#[]⟩] 24)
  have R1 := (HasRow.new w 24 #[.string ⟨#[]⟩, .string ⟨#[]⟩]).alloc (.cells #[.string ⟨#[]⟩, .string ⟨#[]⟩] 24)
  have R2 := HasRow.new (w.alloc (.cells #[.string ⟨#[]⟩, .string ⟨#[]⟩] 24)) 24 #[.string ⟨#[]⟩, .string ⟨#[]⟩]
  rw [World.size_alloc] at R2
  obtain ⟨W1, hW1⟩ : ∃ W1, (w.alloc (.cells #[.string ⟨#[]⟩, .string ⟨#[]⟩] 24)).alloc (.cells #[.string ⟨#[]⟩, .string ⟨#[]⟩] 24) = W1 := ⟨_, rfl⟩
  rw [hW1] at B2 R1 R2
  obtain ⟨g, hg⟩ : ∃ g, w.heap.size = g := ⟨_, rfl⟩
  rw [hg] at R1 R2
  have hpg : p ≠ g := by omega
  have hpg1 : p ≠ g + 1 := by omega
  have H1 := h.below B2
  have HFar : Hid (∀ a, A = some a → a.block < min B g) := Lib.hid (fun a ha => by have := h.lt a ha; have := hB a ha; omega)
  have h0 := Lib.hid (⟨h.row.cell 1 _ rfl, fun o1 o2 => ((h.row.alloc o1).alloc o2).frozen 1⟩ : w.cell? ⟨p, 1, none⟩ = _ ∧ ∀ o1 o2, ((w.alloc o1).alloc o2).frozen? ⟨p, 1, none⟩ = false)
  have x0a := fun o1 o2 => Lib.cell?_alloc_some o2 (Lib.cell?_alloc_some o1 (h.row.cell 0 _ rfl))
  obtain ⟨b, off, rfl, hcell⟩ := h.rd.at_ (k := 0) (by simp)
  simp only [bv, List.map_cons, List.getElem_cons_zero, Nat.add_zero] at hcell
  have hn0 := h.len
  simp only [List.length_cons] at hn0
  have hn1 : 0 < n := by omega
  have ha := fun o1 o2 => Lib.cell?_alloc_some o2 (Lib.cell?_alloc_some o1 hcell)
  obtain ⟨X, hX⟩ : ∃ X, x.toNat = X := ⟨_, rfl⟩
  rw [hX] at ha
  have hX256 : X < 256 := by rw [← hX]; exact x.toNat_lt
  replace H1 := Lib.hid H1
  replace hW1 := Lib.hid hW1
  replace B2 := Lib.hid B2
  replace R1 := Lib.hid R1
  replace R2 := Lib.hid R2
  clear h B1 hcell hn0
  rw [pln, hX] at hp
  replace hX := Lib.hid hX
  replace hg := Lib.hid hg
  go_enter Try.func20, Try.ntmps20
  by_cases c1 : X / 64 = 3
  · rw [if_pos c1] at hp
    go_wp2_with fail
    rw [hW1.out, hg.out]
    refine (number_any H1.out (min B g) HFar.out 6 (by omega) (by omega) l' e1 fa fb hp).mono ?_
    rintro en w2 ⟨rfl, ⟨A2, n2, c2, H2, L2⟩, F2⟩
    have Rv1 := R1.out.fr F2 (fun e => hpg e.symm)
    have y0 := Rv1.cell 0 _ rfl
    have y1 := Rv1.cell 1 _ rfl
    have y2 := Rv1.frozen 0
    have y3 := Rv1.frozen 1
    have HO := Lib.hid (rdr_out H2 Rv1 hpg (fun a ha e => by have := L2 a ha; omega) ((Fr.of_below B2.out (fun k => k = p)).trans F2) (by rw [hg.out]; exact Nat.le_refl _) (.string fa) (.string fb))
    have L9 : Hid (∀ a, A2 = some a → a.block < B) := Lib.hid (fun a ha => by have := L2 a ha; omega)
    clear H2 L2 F2 Rv1
    go_wp2_with fail
    refine bodyPost_ret (v := .agg #[.string fa, .string fb]) (res1 rfl _ _ ⟨g, 0, none⟩ _ rfl (loadF HO.out.1)) rfl ?_
    exact ⟨rfl, ⟨_, _, _, HO.out.2.1, L9.out⟩, HO.out.2.2⟩
  · rw [if_neg c1] at hp
    have hfld := fld0
    by_cases c2 : X / 16 = 5
    · rw [if_pos c2] at hp
      obtain ⟨⟨l2, e2, na, nb⟩, hq⟩ : ∃ q, pnum 4 (x :: r) = q := ⟨_, rfl⟩
      rw [hq] at hp
      simp only at hp
      obtain ⟨⟨l3, e3, s3⟩, hv⟩ : ∃ q, pval l2 e2 = q := ⟨_, rfl⟩
      rw [hv] at hp
      simp only [Prod.mk.injEq, Fd.mk.injEq] at hp
      obtain ⟨rfl, rfl, rfl, rfl⟩ := hp
      replace hv := Lib.hid hv
      replace hq := Lib.hid hq
      go_wp2_with fail
      rw [hW1.out, hg.out]
      refine (number_any H1.out (min B g) HFar.out 4 (by omega) (by omega) l2 e2 na nb hq.out).mono ?_
      rintro en w2 ⟨rfl, ⟨A2, n2, c2, H2, L2⟩, F2⟩
      have Rv1 := R1.out.fr F2 (fun e => hpg e.symm)
      have Rv2 := R2.out.fr F2 (fun e => hpg1 e.symm)
      have z1 := Rv2.cell 0 _ rfl
      have z2 := Rv2.frozen 0
      have Hq := Lib.hid (H2.fr (frp_cell w2 (g + 1) 0 (.string na)) (fun e => hpg1 e) (fun a ha e => by have := L2 a ha; omega))
      have Lq := Lib.hid L2
      have Rq1 := Lib.hid (Rv1.other (B' := g + 1) (by omega) 0 (.string na))
      have Rq2 : Hid (HasRow (w2.setCell ⟨g + 1, 0, none⟩ (.string na)) (g + 1) 24 #[.string na, .string ⟨#[]⟩]) := Lib.hid (heap_setCell_same w2 (g + 1) 0 _ _ (.string na) Rv2)
      have Fq := Lib.hid (((Fr.of_below B2.out (fun k => k = p)).trans F2).setCell (p := ⟨g + 1, 0, none⟩) (fun h => absurd h (by simp only; have := hg.out; omega)) (.string na))
      clear H2 L2 F2 Rv1 Rv2
      go_wp2_with fail
      refine (value_any Hq.out (min B g) Lq.out _ _ _ hv.out).mono ?_
      rintro en wv ⟨rfl, ⟨Av, nv, cv, Hv, Lv⟩, Fv⟩
      have Rv1 := Rq1.out.fr Fv (fun e => hpg e.symm)
      have Rv2 := Rq2.out.fr Fv (fun e => hpg1 e.symm)
      have FV := Fq.out.trans Fv
      have z1 := Rv2.cell 1 _ rfl
      have z2 := Rv2.frozen 1
      have y0 := Rv1.cell 0 _ rfl
      have y1 := Rv1.cell 1 _ rfl
      have y2 := Rv1.frozen 0
      have y3 := Rv1.frozen 1
      have Rx : HasRow (wv.setCell ⟨g + 1, 1, none⟩ (.string s3)) (g + 1) 24 #[.string na, .string s3] := heap_setCell_same wv (g + 1) 1 _ _ (.string s3) Rv2
      have HO := Lib.hid (rdr_out (Hv.fr (frp_cell wv (g + 1) 1 (.string s3)) (fun e => hpg1 e) (fun a ha e => by have := Lv a ha; omega)) (Rv1.other (B' := g + 1) (by omega) 1 (.string s3)) hpg (fun a ha e => by have := Lv a ha; omega) (FV.setCell (p := ⟨g + 1, 1, none⟩) (fun h => absurd h (by simp only; have := hg.out; omega)) (.string s3)) (by rw [hg.out]; exact Nat.le_refl _) (.string na) (.string s3))
      have L9 : Hid (∀ a, Av = some a → a.block < B) := Lib.hid (fun a ha => by have := Lv a ha; omega)
      have x8 := Rx.cell 0 _ rfl
      have x9 := Rx.cell 1 _ rfl
      clear Hv Lv Fv Rv1 Rv2 FV Rx
      go_wp2_with fail
      refine bodyPost_ret (v := .agg #[.string na, .string s3]) (res1 rfl _ _ ⟨g, 0, none⟩ _ rfl (loadF HO.out.1)) rfl ?_
      exact ⟨rfl, ⟨_, _, _, HO.out.2.1, L9.out⟩, HO.out.2.2⟩
    · rw [if_neg c2] at hp
      by_cases c3 : X / 16 = 2
      · rw [if_pos c3] at hp
        obtain ⟨⟨l2, e2, na⟩, hq⟩ : ∃ q, ptxt 3 (x :: r) 0 = q := ⟨_, rfl⟩
        rw [hq] at hp
        simp only at hp
        have hna : na.size ≤ 1000000 := by
          have h1 := (pgettext_bd 3 (x :: r) (by omega) (by omega)).2.2
          have h2 := H1.out.len
          have h3 := H1.out.small
          unfold ptxt at hq
          rw [if_neg (by simp)] at hq
          simp only [Prod.mk.injEq] at hq
          rw [← hq.2.2]
          simp only [ByteArray.size, List.size_toArray]; omega
        have TX := Lib.hid (text_any H1.out (min B g) HFar.out 3 (by omega) (by omega) l2 e2 na hq)
        replace hq := Lib.hid hq
        have NM := Lib.hid (fun W => name_any na W hna)
        obtain ⟨V, hV⟩ : ∃ V, nameok na = V := ⟨_, rfl⟩
        rw [hV] at hp NM
        replace hV := Lib.hid hV
        by_cases he2 : e2 = 0
        · subst he2
          cases V
          · rw [if_pos ⟨rfl, rfl⟩] at hp
            obtain ⟨⟨l3, e3, s3⟩, hv⟩ : ∃ q, pval l2 5 = q := ⟨_, rfl⟩
            rw [hv] at hp
            simp only [Prod.mk.injEq, Fd.mk.injEq] at hp
            obtain ⟨rfl, rfl, rfl, rfl⟩ := hp
            replace hv := Lib.hid hv
            go_wp2_with fail
            rw [hW1.out, hg.out]
            refine TX.out.mono ?_
            rintro en w2 ⟨rfl, ⟨A2, n2, c2, H2, L2⟩, F2⟩
            have Rv1 := R1.out.fr F2 (fun e => hpg e.symm)
            have Rv2 := R2.out.fr F2 (fun e => hpg1 e.symm)
            have z1 := Rv2.cell 0 _ rfl
            have z2 := Rv2.frozen 0
            have H3 := H2.fr (frp_cell w2 (g + 1) 0 (.string na)) (fun e => hpg1 e) (fun a ha e => by have := L2 a ha; omega)
            have Rq3 : HasRow (w2.setCell ⟨g + 1, 0, none⟩ (.string na)) (g + 1) 24 #[.string na, .string ⟨#[]⟩] := heap_setCell_same w2 (g + 1) 0 _ _ (.string na) Rv2
            have k1 := H3.row.cell 1 _ rfl
            have k2 := H3.row.frozen 1
            have k3 := Rq3.cell 0 _ rfl
            have Hq := Lib.hid (H3.setE 5)
            have Lq := Lib.hid L2
            have Rq1 := Lib.hid ((Rv1.other (B' := g + 1) (by omega) 0 (.string na)).other (B' := p) (fun e => hpg e.symm) 1 (.int .i64 5))
            have Rq2 := Lib.hid (Rq3.other (B' := p) (fun e => hpg1 e.symm) 1 (.int .i64 5))
            have Fq := Lib.hid ((((Fr.of_below B2.out (fun k => k = p)).trans F2).setCell (p := ⟨g + 1, 0, none⟩) (fun h => absurd h (by simp only; have := hg.out; omega)) (.string na)).trans (frp_cell _ p 1 (.int .i64 5)))
            clear H2 L2 F2 Rv1 Rv2 H3 Rq3
            go_wp2_with fail
            refine (NM.out _).mono ?_
            rintro en w3 ⟨rfl, rfl⟩
            go_wp2_with fail
            refine (value_any Hq.out (min B g) Lq.out _ _ _ hv.out).mono ?_
            rintro en wv ⟨rfl, ⟨Av, nv, cv, Hv, Lv⟩, Fv⟩
            have Rv1 := Rq1.out.fr Fv (fun e => hpg e.symm)
            have Rv2 := Rq2.out.fr Fv (fun e => hpg1 e.symm)
            have FV := Fq.out.trans Fv
            have z1 := Rv2.cell 1 _ rfl
            have z2 := Rv2.frozen 1
            have y0 := Rv1.cell 0 _ rfl
            have y1 := Rv1.cell 1 _ rfl
            have y2 := Rv1.frozen 0
            have y3 := Rv1.frozen 1
            have Rx : HasRow (wv.setCell ⟨g + 1, 1, none⟩ (.string s3)) (g + 1) 24 #[.string na, .string s3] := heap_setCell_same wv (g + 1) 1 _ _ (.string s3) Rv2
            have HO := Lib.hid (rdr_out (Hv.fr (frp_cell wv (g + 1) 1 (.string s3)) (fun e => hpg1 e) (fun a ha e => by have := Lv a ha; omega)) (Rv1.other (B' := g + 1) (by omega) 1 (.string s3)) hpg (fun a ha e => by have := Lv a ha; omega) (FV.setCell (p := ⟨g + 1, 1, none⟩) (fun h => absurd h (by simp only; have := hg.out; omega)) (.string s3)) (by rw [hg.out]; exact Nat.le_refl _) (.string na) (.string s3))
            have L9 : Hid (∀ a, Av = some a → a.block < B) := Lib.hid (fun a ha => by have := Lv a ha; omega)
            have x8 := Rx.cell 0 _ rfl
            have x9 := Rx.cell 1 _ rfl
            clear Hv Lv Fv Rv1 Rv2 FV Rx
            go_wp2_with fail
            refine bodyPost_ret (v := .agg #[.string na, .string s3]) (res1 rfl _ _ ⟨g, 0, none⟩ _ rfl (loadF HO.out.1)) rfl ?_
            exact ⟨rfl, ⟨_, _, _, HO.out.2.1, L9.out⟩, HO.out.2.2⟩
          · rw [if_neg (by simp)] at hp
            obtain ⟨⟨l3, e3, s3⟩, hv⟩ : ∃ q, pval l2 0 = q := ⟨_, rfl⟩
            rw [hv] at hp
            simp only [Prod.mk.injEq, Fd.mk.injEq] at hp
            obtain ⟨rfl, rfl, rfl, rfl⟩ := hp
            replace hv := Lib.hid hv
            go_wp2_with fail
            rw [hW1.out, hg.out]
            refine TX.out.mono ?_
            rintro en w2 ⟨rfl, ⟨A2, n2, c2, H2, L2⟩, F2⟩
            have Rv1 := R1.out.fr F2 (fun e => hpg e.symm)
            have Rv2 := R2.out.fr F2 (fun e => hpg1 e.symm)
            have z1 := Rv2.cell 0 _ rfl
            have z2 := Rv2.frozen 0
            have Hq := Lib.hid (H2.fr (frp_cell w2 (g + 1) 0 (.string na)) (fun e => hpg1 e) (fun a ha e => by have := L2 a ha; omega))
            have k1 := Hq.out.row.cell 1 _ rfl
            have Lq := Lib.hid L2
            have Rq1 := Lib.hid (Rv1.other (B' := g + 1) (by omega) 0 (.string na))
            have Rq2 : Hid (HasRow (w2.setCell ⟨g + 1, 0, none⟩ (.string na)) (g + 1) 24 #[.string na, .string ⟨#[]⟩]) := Lib.hid (heap_setCell_same w2 (g + 1) 0 _ _ (.string na) Rv2)
            have k3 := Rq2.out.cell 0 _ rfl
            have Fq := Lib.hid (((Fr.of_below B2.out (fun k => k = p)).trans F2).setCell (p := ⟨g + 1, 0, none⟩) (fun h => absurd h (by simp only; have := hg.out; omega)) (.string na))
            clear H2 L2 F2 Rv1 Rv2
            go_wp2_with fail
            refine (NM.out _).mono ?_
            rintro en w3 ⟨rfl, rfl⟩
            go_wp2_with fail
            refine (value_any Hq.out (min B g) Lq.out _ _ _ hv.out).mono ?_
            rintro en wv ⟨rfl, ⟨Av, nv, cv, Hv, Lv⟩, Fv⟩
            have Rv1 := Rq1.out.fr Fv (fun e => hpg e.symm)
            have Rv2 := Rq2.out.fr Fv (fun e => hpg1 e.symm)
            have FV := Fq.out.trans Fv
            have z1 := Rv2.cell 1 _ rfl
            have z2 := Rv2.frozen 1
            have y0 := Rv1.cell 0 _ rfl
            have y1 := Rv1.cell 1 _ rfl
            have y2 := Rv1.frozen 0
            have y3 := Rv1.frozen 1
            have Rx : HasRow (wv.setCell ⟨g + 1, 1, none⟩ (.string s3)) (g + 1) 24 #[.string na, .string s3] := heap_setCell_same wv (g + 1) 1 _ _ (.string s3) Rv2
            have HO := Lib.hid (rdr_out (Hv.fr (frp_cell wv (g + 1) 1 (.string s3)) (fun e => hpg1 e) (fun a ha e => by have := Lv a ha; omega)) (Rv1.other (B' := g + 1) (by omega) 1 (.string s3)) hpg (fun a ha e => by have := Lv a ha; omega) (FV.setCell (p := ⟨g + 1, 1, none⟩) (fun h => absurd h (by simp only; have := hg.out; omega)) (.string s3)) (by rw [hg.out]; exact Nat.le_refl _) (.string na) (.string s3))
            have L9 : Hid (∀ a, Av = some a → a.block < B) := Lib.hid (fun a ha => by have := Lv a ha; omega)
            have x8 := Rx.cell 0 _ rfl
            have x9 := Rx.cell 1 _ rfl
            clear Hv Lv Fv Rv1 Rv2 FV Rx
            go_wp2_with fail
            refine bodyPost_ret (v := .agg #[.string na, .string s3]) (res1 rfl _ _ ⟨g, 0, none⟩ _ rfl (loadF HO.out.1)) rfl ?_
            exact ⟨rfl, ⟨_, _, _, HO.out.2.1, L9.out⟩, HO.out.2.2⟩
        · rw [if_neg (fun h => he2 h.1)] at hp
          obtain ⟨⟨l3, e3, s3⟩, hv⟩ : ∃ q, pval l2 e2 = q := ⟨_, rfl⟩
          rw [hv] at hp
          simp only [Prod.mk.injEq, Fd.mk.injEq] at hp
          obtain ⟨rfl, rfl, rfl, rfl⟩ := hp
          replace hv := Lib.hid hv
          have d1 : (e2 == 0) = false := by rw [beq_eq_false_iff_ne]; exact he2
          go_wp2_with fail
          rw [hW1.out, hg.out]
          refine TX.out.mono ?_
          rintro en w2 ⟨rfl, ⟨A2, n2, c2, H2, L2⟩, F2⟩
          have Rv1 := R1.out.fr F2 (fun e => hpg e.symm)
          have Rv2 := R2.out.fr F2 (fun e => hpg1 e.symm)
          have z1 := Rv2.cell 0 _ rfl
          have z2 := Rv2.frozen 0
          have Hq := Lib.hid (H2.fr (frp_cell w2 (g + 1) 0 (.string na)) (fun e => hpg1 e) (fun a ha e => by have := L2 a ha; omega))
          have k1 := Hq.out.row.cell 1 _ rfl
          have Lq := Lib.hid L2
          have Rq1 := Lib.hid (Rv1.other (B' := g + 1) (by omega) 0 (.string na))
          have Rq2 : Hid (HasRow (w2.setCell ⟨g + 1, 0, none⟩ (.string na)) (g + 1) 24 #[.string na, .string ⟨#[]⟩]) := Lib.hid (heap_setCell_same w2 (g + 1) 0 _ _ (.string na) Rv2)
          have Fq := Lib.hid (((Fr.of_below B2.out (fun k => k = p)).trans F2).setCell (p := ⟨g + 1, 0, none⟩) (fun h => absurd h (by simp only; have := hg.out; omega)) (.string na))
          clear H2 L2 F2 Rv1 Rv2
          go_wp2_with fail
          refine (value_any Hq.out (min B g) Lq.out _ _ _ hv.out).mono ?_
          rintro en wv ⟨rfl, ⟨Av, nv, cv, Hv, Lv⟩, Fv⟩
          have Rv1 := Rq1.out.fr Fv (fun e => hpg e.symm)
          have Rv2 := Rq2.out.fr Fv (fun e => hpg1 e.symm)
          have FV := Fq.out.trans Fv
          have z1 := Rv2.cell 1 _ rfl
          have z2 := Rv2.frozen 1
          have y0 := Rv1.cell 0 _ rfl
          have y1 := Rv1.cell 1 _ rfl
          have y2 := Rv1.frozen 0
          have y3 := Rv1.frozen 1
          have Rx : HasRow (wv.setCell ⟨g + 1, 1, none⟩ (.string s3)) (g + 1) 24 #[.string na, .string s3] := heap_setCell_same wv (g + 1) 1 _ _ (.string s3) Rv2
          have HO := Lib.hid (rdr_out (Hv.fr (frp_cell wv (g + 1) 1 (.string s3)) (fun e => hpg1 e) (fun a ha e => by have := Lv a ha; omega)) (Rv1.other (B' := g + 1) (by omega) 1 (.string s3)) hpg (fun a ha e => by have := Lv a ha; omega) (FV.setCell (p := ⟨g + 1, 1, none⟩) (fun h => absurd h (by simp only; have := hg.out; omega)) (.string s3)) (by rw [hg.out]; exact Nat.le_refl _) (.string na) (.string s3))
          have L9 : Hid (∀ a, Av = some a → a.block < B) := Lib.hid (fun a ha => by have := Lv a ha; omega)
          have x8 := Rx.cell 0 _ rfl
          have x9 := Rx.cell 1 _ rfl
          clear Hv Lv Fv Rv1 Rv2 FV Rx
          go_wp2_with fail
          refine bodyPost_ret (v := .agg #[.string na, .string s3]) (res1 rfl _ _ ⟨g, 0, none⟩ _ rfl (loadF HO.out.1)) rfl ?_
          exact ⟨rfl, ⟨_, _, _, HO.out.2.1, L9.out⟩, HO.out.2.2⟩
      · rw [if_neg c3] at hp
        obtain ⟨⟨l3, e3, s3⟩, hv⟩ : ∃ q, pval (x :: r) 5 = q := ⟨_, rfl⟩
        rw [hv] at hp
        simp only [Prod.mk.injEq, Fd.mk.injEq] at hp
        obtain ⟨rfl, rfl, rfl, rfl⟩ := hp
        replace hv := Lib.hid hv
        have x1a := fun o1 o2 => Lib.cell?_alloc_some o2 (Lib.cell?_alloc_some o1 h0.out.1)
        have x1f := h0.out.2
        have Hq := Lib.hid (H1.out.setE 5)
        have Lq := HFar
        have Rq1 := Lib.hid (R1.out.other (B' := p) (fun e => hpg e.symm) 1 (.int .i64 5))
        have Rq2 := Lib.hid (R2.out.other (B' := p) (fun e => hpg1 e.symm) 1 (.int .i64 5))
        have Fq := Lib.hid ((Fr.of_below B2.out (fun k => k = p)).trans (frp_cell W1 p 1 (.int .i64 5)))
        go_wp2_with fail
        rw [← World.setCell_alloc_past _ p 1 _ hplt, ← World.setCell_alloc_past _ p 1 _ (by rw [World.size_alloc]; omega), hW1.out, hg.out]
        refine (value_any Hq.out (min B g) Lq.out _ _ _ hv.out).mono ?_
        rintro en wv ⟨rfl, ⟨Av, nv, cv, Hv, Lv⟩, Fv⟩
        have Rv1 := Rq1.out.fr Fv (fun e => hpg e.symm)
        have Rv2 := Rq2.out.fr Fv (fun e => hpg1 e.symm)
        have FV := Fq.out.trans Fv
        have z1 := Rv2.cell 1 _ rfl
        have z2 := Rv2.frozen 1
        have y0 := Rv1.cell 0 _ rfl
        have y1 := Rv1.cell 1 _ rfl
        have y2 := Rv1.frozen 0
        have y3 := Rv1.frozen 1
        have Rx : HasRow (wv.setCell ⟨g + 1, 1, none⟩ (.string s3)) (g + 1) 24 #[.string ⟨#[]⟩, .string s3] := heap_setCell_same wv (g + 1) 1 _ _ (.string s3) Rv2
        have HO := Lib.hid (rdr_out (Hv.fr (frp_cell wv (g + 1) 1 (.string s3)) (fun e => hpg1 e) (fun a ha e => by have := Lv a ha; omega)) (Rv1.other (B' := g + 1) (by omega) 1 (.string s3)) hpg (fun a ha e => by have := Lv a ha; omega) (FV.setCell (p := ⟨g + 1, 1, none⟩) (fun h => absurd h (by simp only; have := hg.out; omega)) (.string s3)) (by rw [hg.out]; exact Nat.le_refl _) (.string ⟨#[]⟩) (.string s3))
        have L9 : Hid (∀ a, Av = some a → a.block < B) := Lib.hid (fun a ha => by have := Lv a ha; omega)
        have x8 := Rx.cell 0 _ rfl
        have x9 := Rx.cell 1 _ rfl
        clear Hv Lv Fv Rv1 Rv2 FV Rx
        go_wp2_with fail
        refine bodyPost_ret (v := .agg #[.string ⟨#[]⟩, .string s3]) (res1 rfl _ _ ⟨g, 0, none⟩ _ rfl (loadF HO.out.1)) rfl ?_
        exact ⟨rfl, ⟨_, _, _, HO.out.2.1, L9.out⟩, HO.out.2.2⟩
end
end Go.Proofs.Ytjkimabcpamdcaa
