/- The document's Put: a piece of at least one byte goes in. (Printed by gen_irC.py.) -/
import Derived.Test.YtlaomllgjiochaaIrC
namespace Go.Proofs.Ytlaomllgjiochaa
open Go.RowKit

set_option maxRecDepth 100000 in
set_option maxHeartbeats 16000000 in
theorem rput_ok (p cc : Nat) (vD vC : Value) (s : Inc) (off : Nat) (A : Option Addr) (l : List UInt8) (e : Bool) (w : World) (h : IsRi w p vD vC s) (tie : s.Tie) (hr : Rd w A (bv l)) (hA : 0 < l.length → ∀ a, A = some a → ¬ IncS p vD vC a.block) (hb : (off : Int) + l.length ≤ s.most) (hc : iclash s off l e = false) (hl : 0 < l.length) :
    Calls Try.prog 17 #[.pointer (some ⟨p, 0, none⟩), .int .i64 off, .slice A l.length cc, .bool e] w (RPutPost p vD vC (iput s off l e) w) := by
  obtain ⟨ib, hib, hz0, hz1, hz2⟩ := info_parts infoBo
  obtain ⟨iu, hiu, hy0, hy1, hy2⟩ := info_parts infoB
  have hok := Lib.hid h.ok
  have c0 := wrote_cell h.cell 0 _ rfl
  have c3 := wrote_cell h.cell 3 _ rfl
  have k0 := h.ok.most0
  have k1 := h.ok.most1
  have k2 := h.ok.len
  have k3 := h.ok.en0
  have k4 := h.ok.en1
  have z1 := wrote_cell h.cell 1 _ rfl
  have z2 := wrote_cell h.cell 2 _ rfl
  obtain ⟨ec, hec⟩ : ∃ ec, eclash s (off + l.length) e = ec := ⟨_, rfl⟩
  obtain ⟨ac, hac⟩ : ∃ ac, aclash (s.got.drop off) l = ac := ⟨_, rfl⟩
  have HE : Hid (((decide (0 ≤ s.en) && (decide (s.en < (off : Int) + l.length) || (e && decide ((off : Int) + l.length ≠ s.en)))) || (e && decide ((off : Int) + l.length < s.got.length))) = ec) := Lib.hid (by rw [← hec]; exact eclash_tie s _ e h.ok tie (by omega))
  have hcc : (ec || ac) = iclash s off l e := by rw [← hec, ← hac]; rfl
  rw [hc] at hcc
  replace hcc := Lib.hid hcc
  replace hac := Lib.hid hac
  have H := Lib.hid h
  replace tie := Lib.hid tie
  obtain ⟨AD0, cD0, rfl, hD1, hD2⟩ := own_shape w h.data
  obtain ⟨AC0, cC0, rfl, hC1, hC2⟩ := own_shape w h.came
  have HD0 := Lib.hid (Rd.of_own h.data)
  have HC0 := Lib.hid (Rd.of_own h.came)
  obtain ⟨n, hn⟩ : ∃ n, s.got.length = n := ⟨_, rfl⟩
  obtain ⟨E, hE⟩ : ∃ E, s.en = E := ⟨_, rfl⟩
  obtain ⟨M, hM⟩ : ∃ M, s.most = M := ⟨_, rfl⟩
  rw [hn] at z1 z2 k2 HE hD1 hC1 hA ⊢
  rw [hE] at c3 k3 k4 HE
  rw [hM] at c0 k0 k1 k2 k4 hb
  replace hn := Lib.hid hn
  replace hE := Lib.hid hE
  replace hM := Lib.hid hM
  have hT0 : (off : Int) + l.length ≤ 1048576 := by omega
  obtain ⟨b1, hb1⟩ : ∃ b, decide (0 ≤ E) = b := ⟨_, rfl⟩
  obtain ⟨b2, hb2⟩ : ∃ b, decide (E < (off : Int) + l.length) = b := ⟨_, rfl⟩
  obtain ⟨b3, hb3⟩ : ∃ b, ((off : Int) + l.length != E) = b := ⟨_, rfl⟩
  obtain ⟨b4, hb4⟩ : ∃ b, decide ((off : Int) + l.length < n) = b := ⟨_, rfl⟩
  have hb3' : decide ((off : Int) + l.length ≠ E) = b3 := by rw [← hb3]; exact (bne_eq_dec _ _).symm
  rw [hb1, hb2, hb3', hb4] at HE
  clear h hec hc hb3'
  go_enter Try.func17, Try.ntmps17
  go_upto_region 6 with fail
  go_cut [70] from 35 to 69 (fun x wx => x = .bool ec ∧ w = wx)
  case first =>
    clear hac hcc HD0 HC0 H tie hn hE hM
    cases e <;> cases b1 <;> cases b2 <;> cases b3 <;> cases b4
    all_goals
      go_wp2_with fail
      go_meet
      exact ⟨by rw [← HE.out]; rfl, rfl⟩
  case rest =>
    obtain ⟨rfl, rfl⟩ := hcut
    obtain rfl : ec = false := by
      have := hcc.out
      rw [Bool.or_eq_false_iff] at this
      exact this.1
    clear HE hb1 hb2 hb3 hb4
    go_wp2_with fail
    go_loopw [10] (fun i wr => ∃ k m : Nat, k ≤ l.length ∧ i = .int .i64 k ∧ wr = w.drewN m ∧ Hid (aclash (s.got.drop (off + k)) (l.drop k) = ac)) (fun i _ => l.length - (intOf i).toNat)
    case atStart => exact ⟨0, 0, by omega, rfl, rfl, Lib.hid (by simpa using hac.out)⟩
    case round =>
      obtain ⟨k, m, hk, rfl, rfl, HT⟩ := hrel
      by_cases hkl : k < l.length
      · obtain ⟨b1, o1, rfl, g1⟩ := hr.at_ (k := k) (by simpa using hkl)
        simp only [bv, List.getElem_map] at g1
        by_cases hat : off + k < n
        · have hat2 : off + k < s.got.length := by rw [hn.out]; exact hat
          obtain ⟨b2, o2, rfl, g2⟩ := HC0.out.at_ (k := off + k) (by simpa using hat2)
          obtain ⟨b3, o3, rfl, g3⟩ := HD0.out.at_ (k := off + k) (by simpa using hat2)
          simp only [bo, gc, bv, gb, List.getElem_map] at g2 g3
          have HS := aclash_step s.got l (off + k) k hat2 hkl
          rw [HT.out] at HS
          obtain ⟨v, hv⟩ : ∃ v, s.got[off + k]'hat2 = v := ⟨_, rfl⟩
          obtain ⟨y, hy⟩ : ∃ v, l[k] = v := ⟨_, rfl⟩
          rw [hv] at g2 g3 HS
          rw [hy] at g1 HS
          have hd : decide ((off : Int) + k < n) = true := decide_eq_true (by omega)
          clear hv hy HT hat2
          cases v with
          | none =>
            rename_i aa; clear aa
            simp only [Option.isSome_none, Bool.false_and, Bool.false_or] at HS g2
            replace HS := Lib.hid HS
            go_wp2_with fail
            go_big_quiet (fail)
            go_wp2_with fail
            go_roundw
            case rel => exact ⟨k + 1, _, by omega, by go_num, rfl, Lib.hid HS.out.symm⟩
            case measure => simp [intOf]; omega
          | some d =>
            simp only [Option.isSome_some, Bool.true_and, Option.getD_some] at HS g2 g3
            by_cases hdy : d = y
            · rename_i aa; clear aa
              have hne : ((d.toNat : Int) != (y.toNat : Int)) = false := by rw [hdy]; simp
              rw [decide_eq_false (by simpa using hdy), Bool.false_or] at HS
              replace HS := Lib.hid HS
              clear hdy
              go_wp2_with fail
              go_big_quiet (fail)
              go_wp2_with fail
              go_roundw
              case rel => exact ⟨k + 1, _, by omega, by go_num, rfl, Lib.hid HS.out.symm⟩
              case measure => simp [intOf]; omega
            · have hne : ((d.toNat : Int) != (y.toNat : Int)) = true := by
                rw [bne_iff_ne]; intro h; exact hdy (UInt8.toNat_inj.1 (by exact_mod_cast h))
              rw [decide_eq_true hdy, Bool.true_or] at HS
              exfalso
              have h2 := hcc.out
              rw [HS] at h2
              cases h2
        · rename_i aa; clear aa
          have HS : Hid (aclash (s.got.drop (off + (k + 1))) (l.drop (k + 1)) = ac) := Lib.hid (by
            have h3 := hn.out
            rw [← HT.out, aclash_end _ _ _ (by omega), aclash_end _ _ _ (by omega)])
          have hd : decide ((off : Int) + k < n) = false := decide_eq_false (by omega)
          clear HT
          go_wp2_with fail
          go_big_quiet (fail)
          go_wp2_with fail
          go_roundw
          case rel => exact ⟨k + 1, _, by omega, by go_num, rfl, HS⟩
          case measure => simp [intOf]; omega
      · have hk2 : k = l.length := by omega
        subst hk2
        clear HT hkl
        go_wp2_with fail
        go_loopw [124] (fun _ wr => ∃ (j : Nat) (vD' vC' : Value), (s.got.length + j ≤ off + l.length ∨ j = 0) ∧ IsRi wr p vD' vC' (padded s j) ∧ Fr (IncS p (.slice AD0 n cD0) (.slice AC0 n cC0)) w wr ∧ ∀ k, IncS p vD' vC' k → IncS p (.slice AD0 n cD0) (.slice AC0 n cC0) k ∨ w.heap.size ≤ k)
          (fun _ wr => (off + l.length) - rlen wr p)
        case atStart => exact ⟨0, _, _, .inr rfl, by have := H.out.drewN m; rw [hn.out] at this; simpa [padded] using this, (Fr.refl _ w).drewN m, fun k hk => .inl hk⟩
        case round =>
          clear z1 z2 HD0 HC0
          obtain ⟨j, vD', vC', hj, hI, hF, hN⟩ := hrel
          have d4 := wrote_cell hI.cell 1 _ rfl
          have d5 := wrote_cell hI.cell 2 _ rfl
          have hcell := hI.cell
          obtain ⟨AD, cD, rfl, hD1, hD2⟩ := own_shape wr hI.data
          obtain ⟨AC, cC, rfl, hC1, hC2⟩ := own_shape wr hI.came
          have hlen : (padded s j).got.length = n + j := by rw [padded_len, hn.out]
          have hl1 : (0 : Int) < l.length := by omega
          by_cases hlt : n + j < off + l.length
          · rename_i aa; clear aa
            have hlt' : ((padded s j).got.length : Int) < (off : Int) + l.length := by omega
            obtain ⟨N, hN'⟩ : ∃ n, (padded s j).got.length = n := ⟨_, rfl⟩
            have oD : wr.drew.ownsRow (p + 1) 5 1 (.slice AD N cD) N (bv (gb (padded s j).got)) := by rw [← hN']; exact hI.data
            have oC : wr.drew.ownsRow (p + 1) 4 1 (.slice AC N cC) N (bo (gc (padded s j).got)) := by rw [← hN']; exact hI.came
            have hpl : p < wr.heap.size := heap_lt hI.cell
            have hm : N ≤ 1048576 := by omega
            have hcell : wr.heap[p]? = some (.cells #[.int .i64 s.most, .slice AD (padded s j).got.length cD, .slice AC (padded s j).got.length cC, .int .i64 s.en, .int .i64 s.rd] 52 (0, 0)) := hcell
            rw [hN'] at hcell d4 d5 hlt' hlen
            replace hlen : Hid (N = s.got.length + j) := Lib.hid (by rw [hn.out]; exact hlen)
            replace hI := Lib.hid hI
            replace hF := Lib.hid hF
            replace hN := Lib.hid hN
            clear hj
            go_wp2_with fail
            have hS0 : wr.drew.cell? ⟨p, 1, none⟩ = some (.slice AD N cD) ∧ wr.drew.cell? ⟨p, 2, none⟩ = some (.slice AC N cC) := ⟨d4, d5⟩
            have M0 : Mir wr wr.drew p (.int .i64 s.most) (.int .i64 s.en) (.int .i64 s.rd) (.slice AD N cD) (.slice AC N cC) (.slice AD N cD) (.slice AC N cC) N N (bv (gb (padded s j).got)) (bo (gc (padded s j).got)) := ⟨hcell, oD, oC, (Fr.refl _ wr).drew, fun k hk => .inl hk, fun k hk => .inl hk⟩
            have hn0 : N + 1 ≤ 1048577 := by omega
            obtain ⟨gd, hgd⟩ : ∃ gd, bv (gb (padded s j).got) = gd := ⟨_, rfl⟩
            obtain ⟨gC, hgC⟩ : ∃ gC, bo (gc (padded s j).got) = gC := ⟨_, rfl⟩
            rw [hgd, hgC] at M0
            replace hgd := Lib.hid hgd
            replace hgC := Lib.hid hgC
            have hmo : Hid (s.most = M) := hM
            clear oD oC hcell
            refine wp_region_kept (k := 16) (S := fun w' => w'.cell? ⟨p, 1, none⟩ = some (.slice AD N cD) ∧ w'.cell? ⟨p, 2, none⟩ = some (.slice AC N cC)) (by kernel_rfl) ?_
            refine KeptTill.takeP (i := 0) (oi := { dst := Option.some 125, op := Go.Op.move (Go.Operand.tmp 0), type := 33, pos := "ref.go:43", after := #[], guard := Option.none }) (v := ?v0) (by rfl) (by kernel_rfl) (by kernel_rfl) (by kernel_rfl) (by rfl) (by intro c d u a w h; cases d <;> exact h) (Or.inl ⟨by rfl, ?hy0⟩) (fun _ => hS0) ?rest0
            case hy0 => intro w _; go_simp; (try with_reducible rfl)
            simp only [Act.put, List.setIfInBounds_toArray, List.set_cons_zero, List.set_cons_succ]
            refine KeptTill.takeP (i := 1) (oi := { dst := Option.some 126, op := Go.Op.move (Go.Operand.tmp 0), type := 33, pos := "ref.go:43", after := #[{ on := 16, ground := Go.Ground.gcOnly Go.Departure.lateStores }], guard := Option.none }) (v := ?v1) (by rfl) (by kernel_rfl) (by kernel_rfl) (by kernel_rfl) (by rfl) (by intro c d u a w h; cases d <;> exact h) (Or.inl ⟨by rfl, ?hy1⟩) (fun _ => hS0) ?rest1
            case hy1 => intro w _; go_simp; (try with_reducible rfl)
            simp only [Act.put, List.setIfInBounds_toArray, List.set_cons_zero, List.set_cons_succ]
            refine KeptTill.takeP (i := 2) (oi := { dst := Option.some 127, op := Go.Op.move (Go.Operand.tmp 0), type := 33, pos := "ref.go:43", after := #[], guard := Option.none }) (v := ?v2) (by rfl) (by kernel_rfl) (by kernel_rfl) (by kernel_rfl) (by rfl) (by intro c d u a w h; cases d <;> exact h) (Or.inl ⟨by rfl, ?hy2⟩) (fun _ => hS0) ?rest2
            case hy2 => intro w _; go_simp; (try with_reducible rfl)
            simp only [Act.put, List.setIfInBounds_toArray, List.set_cons_zero, List.set_cons_succ]
            refine KeptTill.takeP (i := 3) (oi := { dst := Option.some 128, op := Go.Op.nilCheck (Go.Operand.tmp 127), type := 0, pos := "ref.go:43", after := #[{ on := 2, ground := Go.Ground.data }], guard := Option.none }) (v := ?v3) (by rfl) (by kernel_rfl) (by kernel_rfl) (by kernel_rfl) (by rfl) (by intro c d u a w h; cases d <;> exact h) (Or.inl ⟨by rfl, ?hy3⟩) (fun _ => hS0) ?rest3
            case hy3 => intro w _; go_simp; (try with_reducible rfl)
            simp only [Act.put, List.setIfInBounds_toArray, List.set_cons_zero, List.set_cons_succ]
            refine KeptTill.takeP (i := 4) (oi := { dst := Option.some 129, op := Go.Op.fieldAddr 52 (Go.Operand.tmp 128) 1, type := 0, pos := "ref.go:43", after := #[{ on := 3, ground := Go.Ground.data }], guard := Option.none }) (v := ?v4) (by rfl) (by kernel_rfl) (by kernel_rfl) (by kernel_rfl) (by rfl) (by intro c d u a w h; cases d <;> exact h) (Or.inl ⟨by rfl, ?hy4⟩) (fun _ => hS0) ?rest4
            case hy4 => intro w _; go_simp; (try with_reducible rfl)
            simp only [Act.put, List.setIfInBounds_toArray, List.set_cons_zero, List.set_cons_succ]
            refine KeptTill.take (i := 5) (oi := { dst := Option.some 130, op := Go.Op.load 22 (Go.Operand.tmp 129), type := 22, pos := "ref.go:43", after := #[{ on := 4, ground := Go.Ground.data }], guard := Option.none }) (v := ?v5) (by rfl) (by kernel_rfl) (by kernel_rfl) (by kernel_rfl) (by rfl) (by rfl) (by kernel_rfl) (by intro c d u a w h; cases d <;> exact h) (Or.inl ⟨by rfl, ?hy5⟩) hS0 ?rest5
            case hy5 => rintro w ⟨e4, e5⟩; go_simp; (try with_reducible rfl)
            simp only [Act.put, List.setIfInBounds_toArray, List.set_cons_zero, List.set_cons_succ]
            refine KeptTill.takeP (i := 8) (oi := { dst := Option.some 133, op := Go.Op.move (Go.Operand.tmp 0), type := 33, pos := "ref.go:43", after := #[], guard := Option.none }) (v := ?v8) (by rfl) (by kernel_rfl) (by kernel_rfl) (by kernel_rfl) (by rfl) (by intro c d u a w h; cases d <;> exact h) (Or.inl ⟨by rfl, ?hy8⟩) (fun _ => hS0) ?rest8
            case hy8 => intro w _; go_simp; (try with_reducible rfl)
            simp only [Act.put, List.setIfInBounds_toArray, List.set_cons_zero, List.set_cons_succ]
            refine KeptTill.takeP (i := 9) (oi := { dst := Option.some 134, op := Go.Op.nilCheck (Go.Operand.tmp 133), type := 0, pos := "ref.go:43", after := #[{ on := 8, ground := Go.Ground.data }], guard := Option.none }) (v := ?v9) (by rfl) (by kernel_rfl) (by kernel_rfl) (by kernel_rfl) (by rfl) (by intro c d u a w h; cases d <;> exact h) (Or.inl ⟨by rfl, ?hy9⟩) (fun _ => hS0) ?rest9
            case hy9 => intro w _; go_simp; (try with_reducible rfl)
            simp only [Act.put, List.setIfInBounds_toArray, List.set_cons_zero, List.set_cons_succ]
            refine KeptTill.takeP (i := 10) (oi := { dst := Option.some 135, op := Go.Op.fieldAddr 52 (Go.Operand.tmp 134) 2, type := 0, pos := "ref.go:43", after := #[{ on := 9, ground := Go.Ground.data }], guard := Option.none }) (v := ?v10) (by rfl) (by kernel_rfl) (by kernel_rfl) (by kernel_rfl) (by rfl) (by intro c d u a w h; cases d <;> exact h) (Or.inl ⟨by rfl, ?hy10⟩) (fun _ => hS0) ?rest10
            case hy10 => intro w _; go_simp; (try with_reducible rfl)
            simp only [Act.put, List.setIfInBounds_toArray, List.set_cons_zero, List.set_cons_succ]
            refine KeptTill.take (i := 11) (oi := { dst := Option.some 136, op := Go.Op.load 46 (Go.Operand.tmp 135), type := 46, pos := "ref.go:43", after := #[{ on := 10, ground := Go.Ground.data }], guard := Option.none }) (v := ?v11) (by rfl) (by kernel_rfl) (by kernel_rfl) (by kernel_rfl) (by rfl) (by rfl) (by kernel_rfl) (by intro c d u a w h; cases d <;> exact h) (Or.inl ⟨by rfl, ?hy11⟩) hS0 ?rest11
            case hy11 => rintro w ⟨e4, e5⟩; go_simp; (try with_reducible rfl)
            simp only [Act.put, List.setIfInBounds_toArray, List.set_cons_zero, List.set_cons_succ]
            refine KeptTill.two (i := 6) (j := 12) (o := { dst := Option.some 131, op := Go.Op.buildSlice 22 1 #[(0, Go.Operand.const (Go.Value.int Go.IntKind.u8 0))], type := 22, pos := "ref.go:43", after := #[], guard := Option.none }) (u := { dst := Option.some 137, op := Go.Op.buildSlice 46 1 #[(0, Go.Operand.const (Go.Value.bool Bool.false))], type := 46, pos := "ref.go:43", after := #[], guard := Option.none }) (by kernel_rfl) (by rfl) (by rfl) (by rfl) (by rfl) ?_ ?_
            · intro K hK
              go_wp2_with fail
              have M1 := M0.allocd (.cells #[.int .u8 0] 5)
              have R6 := M0.rd (.int .u8 0) 5
              refine hK.out _ _ (fun _ => M1.two rfl rfl) ?_
              clear hK K
              try simp only [Act.put, List.setIfInBounds_toArray, List.set_cons_zero, List.set_cons_succ]
              refine KeptTill.two (i := 7) (j := 12) (o := { dst := Option.some 132, op := Go.Op.call { callee := Go.Callee.builtin Go.Builtin.append, args := #[Go.Operand.tmp 130, Go.Operand.tmp 131], argTypes := #[22, 22] }, type := 22, pos := "ref.go:43", after := #[{ on := 5, ground := Go.Ground.data }, { on := 6, ground := Go.Ground.data }], guard := Option.none }) (u := { dst := Option.some 137, op := Go.Op.buildSlice 46 1 #[(0, Go.Operand.const (Go.Value.bool Bool.false))], type := 46, pos := "ref.go:43", after := #[], guard := Option.none }) (by kernel_rfl) (by rfl) (by rfl) (by rfl) (by rfl) ?_ ?_
              · intro K hK
                refine wp_app _ (.tmp 130) (.tmp 131) 22 rfl (p + 1) 5 iu _ 1 Try.underlying22 hiu hy0 hy1 hy2 rfl _ N gd (by rfl) M1.data _ 1 1 [.int .u8 0] (by rfl) rfl (by first | exact R6 | (have q := R6; simp at q; exact q)) (by simp [Value.oneCell']) (by unfold maxLen; omega) (by omega) M1.base ?_
                intro AD1 cD1 w7 hown7 hgrow7 hob7
                have M2 := M1.grownD hown7 hgrow7 hob7
                refine hK.out _ _ (fun _ => M2.two rfl rfl) ?_
                clear hK K
                try simp only [Act.put, List.setIfInBounds_toArray, List.set_cons_zero, List.set_cons_succ]
                refine KeptTill.one (i := 12) (o := { dst := Option.some 137, op := Go.Op.buildSlice 46 1 #[(0, Go.Operand.const (Go.Value.bool Bool.false))], type := 46, pos := "ref.go:43", after := #[], guard := Option.none }) (by kernel_rfl) (by rfl) (by rfl) ?_
                intro K hK
                go_wp2_with fail
                have M3 := M2.allocd (.cells #[.bool false] 4)
                have R12 := M2.rd (.bool false) 4
                replace R6 := R6.alloc (.cells #[.bool false] 4)
                refine hK.out _ _ (fun _ => M3.two rfl rfl) ?_
                clear hK K
                try simp only [Act.put, List.setIfInBounds_toArray, List.set_cons_zero, List.set_cons_succ]
                refine KeptTill.one (i := 13) (o := { dst := Option.some 138, op := Go.Op.call { callee := Go.Callee.builtin Go.Builtin.append, args := #[Go.Operand.tmp 136, Go.Operand.tmp 137], argTypes := #[46, 46] }, type := 46, pos := "ref.go:43", after := #[{ on := 11, ground := Go.Ground.data }, { on := 12, ground := Go.Ground.data }, { on := 7, ground := Go.Ground.chain }], guard := Option.none }) (by kernel_rfl) (by rfl) (by rfl) ?_
                intro K hK
                refine wp_app _ (.tmp 136) (.tmp 137) 46 rfl (p + 1) 4 ib _ 1 Try.underlying46 hib hz0 hz1 hz2 rfl _ N gC (by rfl) M3.came _ 1 1 [.bool false] (by rfl) rfl (by first | exact R12 | (have q := R12; simp at q; exact q)) (by simp [Value.oneCell']) (by unfold maxLen; omega) (by omega) M3.base ?_
                intro AC1 cC1 w13 hown13 hgrow13 hob13
                have M4 := M3.grownC hown13 hgrow13 hob13
                refine hK.out _ _ (fun _ => M4.two rfl rfl) ?_
                clear hK K
                try simp only [Act.put, List.setIfInBounds_toArray, List.set_cons_zero, List.set_cons_succ]
                have q := M4.heap
                have q4 := wrote_cell q 1 _ rfl
                have q5 := wrote_cell q 2 _ rfl
                have f4 := frozen_of_row _ p 1 _ _ q
                have f5 := frozen_of_row _ p 2 _ _ q
                clear q
                refine KeptTill.one (i := 14) (o := { dst := Option.some 139, op := Go.Op.nilCheck (Go.Operand.tmp 125), type := 0, pos := "ref.go:43", after := #[{ on := 0, ground := Go.Ground.data }, { on := 0, ground := Go.Ground.phase }, { on := 1, ground := Go.Ground.textOnly Go.Departure.lateStores }, { on := 2, ground := Go.Ground.phase }, { on := 3, ground := Go.Ground.phase }, { on := 4, ground := Go.Ground.phase }, { on := 5, ground := Go.Ground.phase }, { on := 6, ground := Go.Ground.phase }, { on := 7, ground := Go.Ground.phase }, { on := 8, ground := Go.Ground.textOnly Go.Departure.lateStores }, { on := 9, ground := Go.Ground.textOnly Go.Departure.lateStoresUnsure }, { on := 10, ground := Go.Ground.textOnly Go.Departure.lateStoresUnsure }, { on := 11, ground := Go.Ground.phase }, { on := 12, ground := Go.Ground.textOnly Go.Departure.lateStoresUnsure }, { on := 13, ground := Go.Ground.phase }], guard := Option.none }) (by kernel_rfl) (by rfl) (by rfl) ?_
                intro K hK
                go_wp2_with fail
                refine hK.out _ _ (fun _ => M4.two rfl rfl) ?_
                clear hK K
                try simp only [Act.put, List.setIfInBounds_toArray, List.set_cons_zero, List.set_cons_succ]
                refine KeptTill.one (i := 15) (o := { dst := Option.some 140, op := Go.Op.fieldAddr 52 (Go.Operand.tmp 139) 1, type := 0, pos := "ref.go:43", after := #[{ on := 14, ground := Go.Ground.data }, { on := 0, ground := Go.Ground.phase }, { on := 1, ground := Go.Ground.textOnly Go.Departure.lateStores }, { on := 2, ground := Go.Ground.phase }, { on := 3, ground := Go.Ground.phase }, { on := 4, ground := Go.Ground.phase }, { on := 5, ground := Go.Ground.phase }, { on := 6, ground := Go.Ground.phase }, { on := 7, ground := Go.Ground.phase }, { on := 8, ground := Go.Ground.textOnly Go.Departure.lateStores }, { on := 9, ground := Go.Ground.textOnly Go.Departure.lateStoresUnsure }, { on := 10, ground := Go.Ground.textOnly Go.Departure.lateStoresUnsure }, { on := 11, ground := Go.Ground.phase }, { on := 12, ground := Go.Ground.textOnly Go.Departure.lateStoresUnsure }, { on := 13, ground := Go.Ground.phase }], guard := Option.none }) (by kernel_rfl) (by rfl) (by rfl) ?_
                intro K hK
                go_wp2_with fail
                refine hK.out _ _ (fun _ => M4.two rfl rfl) ?_
                clear hK K
                try simp only [Act.put, List.setIfInBounds_toArray, List.set_cons_zero, List.set_cons_succ]
                refine KeptTill.one (i := 16) (o := { dst := Option.none, op := Go.Op.store 22 (Go.Operand.tmp 140) (Go.Operand.tmp 132), type := 0, pos := "ref.go:43", after := #[{ on := 15, ground := Go.Ground.data }, { on := 7, ground := Go.Ground.data }, { on := 13, ground := Go.Ground.chain }, { on := 0, ground := Go.Ground.phase }, { on := 1, ground := Go.Ground.textOnly Go.Departure.lateStores }, { on := 2, ground := Go.Ground.phase }, { on := 3, ground := Go.Ground.phase }, { on := 4, ground := Go.Ground.phase }, { on := 5, ground := Go.Ground.phase }, { on := 6, ground := Go.Ground.phase }, { on := 7, ground := Go.Ground.phase }, { on := 8, ground := Go.Ground.textOnly Go.Departure.lateStores }, { on := 9, ground := Go.Ground.textOnly Go.Departure.lateStoresUnsure }, { on := 10, ground := Go.Ground.textOnly Go.Departure.lateStoresUnsure }, { on := 11, ground := Go.Ground.phase }, { on := 12, ground := Go.Ground.textOnly Go.Departure.lateStoresUnsure }, { on := 13, ground := Go.Ground.phase }], guard := Option.none }) (by kernel_rfl) (by rfl) (by rfl) ?_
                intro K hK
                go_wp2_with fail
                refine hK.out _ _ (fun h => absurd h (by decide)) ?_
                clear hK K
                try simp only [Act.put, List.setIfInBounds_toArray, List.set_cons_zero, List.set_cons_succ]
                refine KeptTill.one (i := 17) (o := { dst := Option.some 141, op := Go.Op.nilCheck (Go.Operand.tmp 126), type := 0, pos := "ref.go:43", after := #[{ on := 1, ground := Go.Ground.data }, { on := 0, ground := Go.Ground.phase }, { on := 1, ground := Go.Ground.phase }, { on := 2, ground := Go.Ground.phase }, { on := 3, ground := Go.Ground.phase }, { on := 4, ground := Go.Ground.phase }, { on := 5, ground := Go.Ground.phase }, { on := 6, ground := Go.Ground.phase }, { on := 7, ground := Go.Ground.phase }, { on := 8, ground := Go.Ground.phase }, { on := 9, ground := Go.Ground.phase }, { on := 10, ground := Go.Ground.phase }, { on := 11, ground := Go.Ground.phase }, { on := 12, ground := Go.Ground.phase }, { on := 13, ground := Go.Ground.phase }, { on := 14, ground := Go.Ground.phase }, { on := 15, ground := Go.Ground.phase }, { on := 16, ground := Go.Ground.phase }], guard := Option.none }) (by kernel_rfl) (by rfl) (by rfl) ?_
                intro K hK
                go_wp2_with fail
                refine hK.out _ _ (fun h => absurd h (by decide)) ?_
                clear hK K
                try simp only [Act.put, List.setIfInBounds_toArray, List.set_cons_zero, List.set_cons_succ]
                refine KeptTill.one (i := 18) (o := { dst := Option.some 142, op := Go.Op.fieldAddr 52 (Go.Operand.tmp 141) 2, type := 0, pos := "ref.go:43", after := #[{ on := 17, ground := Go.Ground.data }, { on := 0, ground := Go.Ground.phase }, { on := 1, ground := Go.Ground.phase }, { on := 2, ground := Go.Ground.phase }, { on := 3, ground := Go.Ground.phase }, { on := 4, ground := Go.Ground.phase }, { on := 5, ground := Go.Ground.phase }, { on := 6, ground := Go.Ground.phase }, { on := 7, ground := Go.Ground.phase }, { on := 8, ground := Go.Ground.phase }, { on := 9, ground := Go.Ground.phase }, { on := 10, ground := Go.Ground.phase }, { on := 11, ground := Go.Ground.phase }, { on := 12, ground := Go.Ground.phase }, { on := 13, ground := Go.Ground.phase }, { on := 14, ground := Go.Ground.phase }, { on := 15, ground := Go.Ground.phase }, { on := 16, ground := Go.Ground.phase }], guard := Option.none }) (by kernel_rfl) (by rfl) (by rfl) ?_
                intro K hK
                go_wp2_with fail
                refine hK.out _ _ (fun h => absurd h (by decide)) ?_
                clear hK K
                try simp only [Act.put, List.setIfInBounds_toArray, List.set_cons_zero, List.set_cons_succ]
                refine KeptTill.one (i := 19) (o := { dst := Option.none, op := Go.Op.store 46 (Go.Operand.tmp 142) (Go.Operand.tmp 138), type := 0, pos := "ref.go:43", after := #[{ on := 18, ground := Go.Ground.data }, { on := 13, ground := Go.Ground.data }, { on := 16, ground := Go.Ground.chain }, { on := 0, ground := Go.Ground.phase }, { on := 1, ground := Go.Ground.phase }, { on := 2, ground := Go.Ground.phase }, { on := 3, ground := Go.Ground.phase }, { on := 4, ground := Go.Ground.phase }, { on := 5, ground := Go.Ground.phase }, { on := 6, ground := Go.Ground.phase }, { on := 7, ground := Go.Ground.phase }, { on := 8, ground := Go.Ground.phase }, { on := 9, ground := Go.Ground.phase }, { on := 10, ground := Go.Ground.phase }, { on := 11, ground := Go.Ground.phase }, { on := 12, ground := Go.Ground.phase }, { on := 13, ground := Go.Ground.phase }, { on := 14, ground := Go.Ground.phase }, { on := 15, ground := Go.Ground.phase }, { on := 16, ground := Go.Ground.phase }], guard := Option.none }) (by kernel_rfl) (by rfl) (by rfl) ?_
                intro K hK
                go_wp2_with fail
                refine hK.out _ _ (fun h => absurd h (by decide)) ?_
                clear hK K
                try simp only [Act.put, List.setIfInBounds_toArray, List.set_cons_zero, List.set_cons_succ]
                refine KeptTill.done (by kernel_rfl) ?_ _
                go_wp2_with fail
                obtain ⟨vD2, vC2, r1, r2, r3⟩ := rpad_round M4 hI hF hN hgd hgC hlen (by have := hM.out; omega) hok.out
                have hlt2 := hlen.out
                exact ⟨⟨j + 1, vD2, vC2, .inl (by omega), r1, r2, r3⟩, by rw [r1.rlen, hI.out.rlen, padded_len]; simp only [padded_len]; omega⟩
              · intro K hK
                go_wp2_with fail
                have M2 := M1.allocd (.cells #[.bool false] 4)
                have R12 := M1.rd (.bool false) 4
                replace R6 := R6.alloc (.cells #[.bool false] 4)
                refine hK.out _ _ (fun _ => M2.two rfl rfl) ?_
                clear hK K
                try simp only [Act.put, List.setIfInBounds_toArray, List.set_cons_zero, List.set_cons_succ]
                refine KeptTill.one (i := 7) (o := { dst := Option.some 132, op := Go.Op.call { callee := Go.Callee.builtin Go.Builtin.append, args := #[Go.Operand.tmp 130, Go.Operand.tmp 131], argTypes := #[22, 22] }, type := 22, pos := "ref.go:43", after := #[{ on := 5, ground := Go.Ground.data }, { on := 6, ground := Go.Ground.data }], guard := Option.none }) (by kernel_rfl) (by rfl) (by rfl) ?_
                intro K hK
                refine wp_app _ (.tmp 130) (.tmp 131) 22 rfl (p + 1) 5 iu _ 1 Try.underlying22 hiu hy0 hy1 hy2 rfl _ N gd (by rfl) M2.data _ 1 1 [.int .u8 0] (by rfl) rfl (by first | exact R6 | (have q := R6; simp at q; exact q)) (by simp [Value.oneCell']) (by unfold maxLen; omega) (by omega) M2.base ?_
                intro AD1 cD1 w7 hown7 hgrow7 hob7
                have M3 := M2.grownD hown7 hgrow7 hob7
                replace R12 := R12.farB M1 hgrow7
                refine hK.out _ _ (fun _ => M3.two rfl rfl) ?_
                clear hK K
                try simp only [Act.put, List.setIfInBounds_toArray, List.set_cons_zero, List.set_cons_succ]
                refine KeptTill.one (i := 13) (o := { dst := Option.some 138, op := Go.Op.call { callee := Go.Callee.builtin Go.Builtin.append, args := #[Go.Operand.tmp 136, Go.Operand.tmp 137], argTypes := #[46, 46] }, type := 46, pos := "ref.go:43", after := #[{ on := 11, ground := Go.Ground.data }, { on := 12, ground := Go.Ground.data }, { on := 7, ground := Go.Ground.chain }], guard := Option.none }) (by kernel_rfl) (by rfl) (by rfl) ?_
                intro K hK
                refine wp_app _ (.tmp 136) (.tmp 137) 46 rfl (p + 1) 4 ib _ 1 Try.underlying46 hib hz0 hz1 hz2 rfl _ N gC (by rfl) M3.came _ 1 1 [.bool false] (by rfl) rfl (by first | exact R12 | (have q := R12; simp at q; exact q)) (by simp [Value.oneCell']) (by unfold maxLen; omega) (by omega) M3.base ?_
                intro AC1 cC1 w13 hown13 hgrow13 hob13
                have M4 := M3.grownC hown13 hgrow13 hob13
                refine hK.out _ _ (fun _ => M4.two rfl rfl) ?_
                clear hK K
                try simp only [Act.put, List.setIfInBounds_toArray, List.set_cons_zero, List.set_cons_succ]
                have q := M4.heap
                have q4 := wrote_cell q 1 _ rfl
                have q5 := wrote_cell q 2 _ rfl
                have f4 := frozen_of_row _ p 1 _ _ q
                have f5 := frozen_of_row _ p 2 _ _ q
                clear q
                refine KeptTill.one (i := 14) (o := { dst := Option.some 139, op := Go.Op.nilCheck (Go.Operand.tmp 125), type := 0, pos := "ref.go:43", after := #[{ on := 0, ground := Go.Ground.data }, { on := 0, ground := Go.Ground.phase }, { on := 1, ground := Go.Ground.textOnly Go.Departure.lateStores }, { on := 2, ground := Go.Ground.phase }, { on := 3, ground := Go.Ground.phase }, { on := 4, ground := Go.Ground.phase }, { on := 5, ground := Go.Ground.phase }, { on := 6, ground := Go.Ground.phase }, { on := 7, ground := Go.Ground.phase }, { on := 8, ground := Go.Ground.textOnly Go.Departure.lateStores }, { on := 9, ground := Go.Ground.textOnly Go.Departure.lateStoresUnsure }, { on := 10, ground := Go.Ground.textOnly Go.Departure.lateStoresUnsure }, { on := 11, ground := Go.Ground.phase }, { on := 12, ground := Go.Ground.textOnly Go.Departure.lateStoresUnsure }, { on := 13, ground := Go.Ground.phase }], guard := Option.none }) (by kernel_rfl) (by rfl) (by rfl) ?_
                intro K hK
                go_wp2_with fail
                refine hK.out _ _ (fun _ => M4.two rfl rfl) ?_
                clear hK K
                try simp only [Act.put, List.setIfInBounds_toArray, List.set_cons_zero, List.set_cons_succ]
                refine KeptTill.one (i := 15) (o := { dst := Option.some 140, op := Go.Op.fieldAddr 52 (Go.Operand.tmp 139) 1, type := 0, pos := "ref.go:43", after := #[{ on := 14, ground := Go.Ground.data }, { on := 0, ground := Go.Ground.phase }, { on := 1, ground := Go.Ground.textOnly Go.Departure.lateStores }, { on := 2, ground := Go.Ground.phase }, { on := 3, ground := Go.Ground.phase }, { on := 4, ground := Go.Ground.phase }, { on := 5, ground := Go.Ground.phase }, { on := 6, ground := Go.Ground.phase }, { on := 7, ground := Go.Ground.phase }, { on := 8, ground := Go.Ground.textOnly Go.Departure.lateStores }, { on := 9, ground := Go.Ground.textOnly Go.Departure.lateStoresUnsure }, { on := 10, ground := Go.Ground.textOnly Go.Departure.lateStoresUnsure }, { on := 11, ground := Go.Ground.phase }, { on := 12, ground := Go.Ground.textOnly Go.Departure.lateStoresUnsure }, { on := 13, ground := Go.Ground.phase }], guard := Option.none }) (by kernel_rfl) (by rfl) (by rfl) ?_
                intro K hK
                go_wp2_with fail
                refine hK.out _ _ (fun _ => M4.two rfl rfl) ?_
                clear hK K
                try simp only [Act.put, List.setIfInBounds_toArray, List.set_cons_zero, List.set_cons_succ]
                refine KeptTill.one (i := 16) (o := { dst := Option.none, op := Go.Op.store 22 (Go.Operand.tmp 140) (Go.Operand.tmp 132), type := 0, pos := "ref.go:43", after := #[{ on := 15, ground := Go.Ground.data }, { on := 7, ground := Go.Ground.data }, { on := 13, ground := Go.Ground.chain }, { on := 0, ground := Go.Ground.phase }, { on := 1, ground := Go.Ground.textOnly Go.Departure.lateStores }, { on := 2, ground := Go.Ground.phase }, { on := 3, ground := Go.Ground.phase }, { on := 4, ground := Go.Ground.phase }, { on := 5, ground := Go.Ground.phase }, { on := 6, ground := Go.Ground.phase }, { on := 7, ground := Go.Ground.phase }, { on := 8, ground := Go.Ground.textOnly Go.Departure.lateStores }, { on := 9, ground := Go.Ground.textOnly Go.Departure.lateStoresUnsure }, { on := 10, ground := Go.Ground.textOnly Go.Departure.lateStoresUnsure }, { on := 11, ground := Go.Ground.phase }, { on := 12, ground := Go.Ground.textOnly Go.Departure.lateStoresUnsure }, { on := 13, ground := Go.Ground.phase }], guard := Option.none }) (by kernel_rfl) (by rfl) (by rfl) ?_
                intro K hK
                go_wp2_with fail
                refine hK.out _ _ (fun h => absurd h (by decide)) ?_
                clear hK K
                try simp only [Act.put, List.setIfInBounds_toArray, List.set_cons_zero, List.set_cons_succ]
                refine KeptTill.one (i := 17) (o := { dst := Option.some 141, op := Go.Op.nilCheck (Go.Operand.tmp 126), type := 0, pos := "ref.go:43", after := #[{ on := 1, ground := Go.Ground.data }, { on := 0, ground := Go.Ground.phase }, { on := 1, ground := Go.Ground.phase }, { on := 2, ground := Go.Ground.phase }, { on := 3, ground := Go.Ground.phase }, { on := 4, ground := Go.Ground.phase }, { on := 5, ground := Go.Ground.phase }, { on := 6, ground := Go.Ground.phase }, { on := 7, ground := Go.Ground.phase }, { on := 8, ground := Go.Ground.phase }, { on := 9, ground := Go.Ground.phase }, { on := 10, ground := Go.Ground.phase }, { on := 11, ground := Go.Ground.phase }, { on := 12, ground := Go.Ground.phase }, { on := 13, ground := Go.Ground.phase }, { on := 14, ground := Go.Ground.phase }, { on := 15, ground := Go.Ground.phase }, { on := 16, ground := Go.Ground.phase }], guard := Option.none }) (by kernel_rfl) (by rfl) (by rfl) ?_
                intro K hK
                go_wp2_with fail
                refine hK.out _ _ (fun h => absurd h (by decide)) ?_
                clear hK K
                try simp only [Act.put, List.setIfInBounds_toArray, List.set_cons_zero, List.set_cons_succ]
                refine KeptTill.one (i := 18) (o := { dst := Option.some 142, op := Go.Op.fieldAddr 52 (Go.Operand.tmp 141) 2, type := 0, pos := "ref.go:43", after := #[{ on := 17, ground := Go.Ground.data }, { on := 0, ground := Go.Ground.phase }, { on := 1, ground := Go.Ground.phase }, { on := 2, ground := Go.Ground.phase }, { on := 3, ground := Go.Ground.phase }, { on := 4, ground := Go.Ground.phase }, { on := 5, ground := Go.Ground.phase }, { on := 6, ground := Go.Ground.phase }, { on := 7, ground := Go.Ground.phase }, { on := 8, ground := Go.Ground.phase }, { on := 9, ground := Go.Ground.phase }, { on := 10, ground := Go.Ground.phase }, { on := 11, ground := Go.Ground.phase }, { on := 12, ground := Go.Ground.phase }, { on := 13, ground := Go.Ground.phase }, { on := 14, ground := Go.Ground.phase }, { on := 15, ground := Go.Ground.phase }, { on := 16, ground := Go.Ground.phase }], guard := Option.none }) (by kernel_rfl) (by rfl) (by rfl) ?_
                intro K hK
                go_wp2_with fail
                refine hK.out _ _ (fun h => absurd h (by decide)) ?_
                clear hK K
                try simp only [Act.put, List.setIfInBounds_toArray, List.set_cons_zero, List.set_cons_succ]
                refine KeptTill.one (i := 19) (o := { dst := Option.none, op := Go.Op.store 46 (Go.Operand.tmp 142) (Go.Operand.tmp 138), type := 0, pos := "ref.go:43", after := #[{ on := 18, ground := Go.Ground.data }, { on := 13, ground := Go.Ground.data }, { on := 16, ground := Go.Ground.chain }, { on := 0, ground := Go.Ground.phase }, { on := 1, ground := Go.Ground.phase }, { on := 2, ground := Go.Ground.phase }, { on := 3, ground := Go.Ground.phase }, { on := 4, ground := Go.Ground.phase }, { on := 5, ground := Go.Ground.phase }, { on := 6, ground := Go.Ground.phase }, { on := 7, ground := Go.Ground.phase }, { on := 8, ground := Go.Ground.phase }, { on := 9, ground := Go.Ground.phase }, { on := 10, ground := Go.Ground.phase }, { on := 11, ground := Go.Ground.phase }, { on := 12, ground := Go.Ground.phase }, { on := 13, ground := Go.Ground.phase }, { on := 14, ground := Go.Ground.phase }, { on := 15, ground := Go.Ground.phase }, { on := 16, ground := Go.Ground.phase }], guard := Option.none }) (by kernel_rfl) (by rfl) (by rfl) ?_
                intro K hK
                go_wp2_with fail
                refine hK.out _ _ (fun h => absurd h (by decide)) ?_
                clear hK K
                try simp only [Act.put, List.setIfInBounds_toArray, List.set_cons_zero, List.set_cons_succ]
                refine KeptTill.done (by kernel_rfl) ?_ _
                go_wp2_with fail
                obtain ⟨vD2, vC2, r1, r2, r3⟩ := rpad_round M4 hI hF hN hgd hgC hlen (by have := hM.out; omega) hok.out
                have hlt2 := hlen.out
                exact ⟨⟨j + 1, vD2, vC2, .inl (by omega), r1, r2, r3⟩, by rw [r1.rlen, hI.out.rlen, padded_len]; simp only [padded_len]; omega⟩
            · intro K hK
              go_wp2_with fail
              have M1 := M0.allocd (.cells #[.bool false] 4)
              have R12 := M0.rd (.bool false) 4
              refine hK.out _ _ (fun _ => M1.two rfl rfl) ?_
              clear hK K
              try simp only [Act.put, List.setIfInBounds_toArray, List.set_cons_zero, List.set_cons_succ]
              refine KeptTill.one (i := 6) (o := { dst := Option.some 131, op := Go.Op.buildSlice 22 1 #[(0, Go.Operand.const (Go.Value.int Go.IntKind.u8 0))], type := 22, pos := "ref.go:43", after := #[], guard := Option.none }) (by kernel_rfl) (by rfl) (by rfl) ?_
              intro K hK
              go_wp2_with fail
              have M2 := M1.allocd (.cells #[.int .u8 0] 5)
              have R6 := M1.rd (.int .u8 0) 5
              replace R12 := R12.alloc (.cells #[.int .u8 0] 5)
              refine hK.out _ _ (fun _ => M2.two rfl rfl) ?_
              clear hK K
              try simp only [Act.put, List.setIfInBounds_toArray, List.set_cons_zero, List.set_cons_succ]
              refine KeptTill.one (i := 7) (o := { dst := Option.some 132, op := Go.Op.call { callee := Go.Callee.builtin Go.Builtin.append, args := #[Go.Operand.tmp 130, Go.Operand.tmp 131], argTypes := #[22, 22] }, type := 22, pos := "ref.go:43", after := #[{ on := 5, ground := Go.Ground.data }, { on := 6, ground := Go.Ground.data }], guard := Option.none }) (by kernel_rfl) (by rfl) (by rfl) ?_
              intro K hK
              refine wp_app _ (.tmp 130) (.tmp 131) 22 rfl (p + 1) 5 iu _ 1 Try.underlying22 hiu hy0 hy1 hy2 rfl _ N gd (by rfl) M2.data _ 1 1 [.int .u8 0] (by rfl) rfl (by first | exact R6 | (have q := R6; simp at q; exact q)) (by simp [Value.oneCell']) (by unfold maxLen; omega) (by omega) M2.base ?_
              intro AD1 cD1 w7 hown7 hgrow7 hob7
              have M3 := M2.grownD hown7 hgrow7 hob7
              replace R12 := R12.farB M0 hgrow7
              refine hK.out _ _ (fun _ => M3.two rfl rfl) ?_
              clear hK K
              try simp only [Act.put, List.setIfInBounds_toArray, List.set_cons_zero, List.set_cons_succ]
              refine KeptTill.one (i := 13) (o := { dst := Option.some 138, op := Go.Op.call { callee := Go.Callee.builtin Go.Builtin.append, args := #[Go.Operand.tmp 136, Go.Operand.tmp 137], argTypes := #[46, 46] }, type := 46, pos := "ref.go:43", after := #[{ on := 11, ground := Go.Ground.data }, { on := 12, ground := Go.Ground.data }, { on := 7, ground := Go.Ground.chain }], guard := Option.none }) (by kernel_rfl) (by rfl) (by rfl) ?_
              intro K hK
              refine wp_app _ (.tmp 136) (.tmp 137) 46 rfl (p + 1) 4 ib _ 1 Try.underlying46 hib hz0 hz1 hz2 rfl _ N gC (by rfl) M3.came _ 1 1 [.bool false] (by rfl) rfl (by first | exact R12 | (have q := R12; simp at q; exact q)) (by simp [Value.oneCell']) (by unfold maxLen; omega) (by omega) M3.base ?_
              intro AC1 cC1 w13 hown13 hgrow13 hob13
              have M4 := M3.grownC hown13 hgrow13 hob13
              refine hK.out _ _ (fun _ => M4.two rfl rfl) ?_
              clear hK K
              try simp only [Act.put, List.setIfInBounds_toArray, List.set_cons_zero, List.set_cons_succ]
              have q := M4.heap
              have q4 := wrote_cell q 1 _ rfl
              have q5 := wrote_cell q 2 _ rfl
              have f4 := frozen_of_row _ p 1 _ _ q
              have f5 := frozen_of_row _ p 2 _ _ q
              clear q
              refine KeptTill.one (i := 14) (o := { dst := Option.some 139, op := Go.Op.nilCheck (Go.Operand.tmp 125), type := 0, pos := "ref.go:43", after := #[{ on := 0, ground := Go.Ground.data }, { on := 0, ground := Go.Ground.phase }, { on := 1, ground := Go.Ground.textOnly Go.Departure.lateStores }, { on := 2, ground := Go.Ground.phase }, { on := 3, ground := Go.Ground.phase }, { on := 4, ground := Go.Ground.phase }, { on := 5, ground := Go.Ground.phase }, { on := 6, ground := Go.Ground.phase }, { on := 7, ground := Go.Ground.phase }, { on := 8, ground := Go.Ground.textOnly Go.Departure.lateStores }, { on := 9, ground := Go.Ground.textOnly Go.Departure.lateStoresUnsure }, { on := 10, ground := Go.Ground.textOnly Go.Departure.lateStoresUnsure }, { on := 11, ground := Go.Ground.phase }, { on := 12, ground := Go.Ground.textOnly Go.Departure.lateStoresUnsure }, { on := 13, ground := Go.Ground.phase }], guard := Option.none }) (by kernel_rfl) (by rfl) (by rfl) ?_
              intro K hK
              go_wp2_with fail
              refine hK.out _ _ (fun _ => M4.two rfl rfl) ?_
              clear hK K
              try simp only [Act.put, List.setIfInBounds_toArray, List.set_cons_zero, List.set_cons_succ]
              refine KeptTill.one (i := 15) (o := { dst := Option.some 140, op := Go.Op.fieldAddr 52 (Go.Operand.tmp 139) 1, type := 0, pos := "ref.go:43", after := #[{ on := 14, ground := Go.Ground.data }, { on := 0, ground := Go.Ground.phase }, { on := 1, ground := Go.Ground.textOnly Go.Departure.lateStores }, { on := 2, ground := Go.Ground.phase }, { on := 3, ground := Go.Ground.phase }, { on := 4, ground := Go.Ground.phase }, { on := 5, ground := Go.Ground.phase }, { on := 6, ground := Go.Ground.phase }, { on := 7, ground := Go.Ground.phase }, { on := 8, ground := Go.Ground.textOnly Go.Departure.lateStores }, { on := 9, ground := Go.Ground.textOnly Go.Departure.lateStoresUnsure }, { on := 10, ground := Go.Ground.textOnly Go.Departure.lateStoresUnsure }, { on := 11, ground := Go.Ground.phase }, { on := 12, ground := Go.Ground.textOnly Go.Departure.lateStoresUnsure }, { on := 13, ground := Go.Ground.phase }], guard := Option.none }) (by kernel_rfl) (by rfl) (by rfl) ?_
              intro K hK
              go_wp2_with fail
              refine hK.out _ _ (fun _ => M4.two rfl rfl) ?_
              clear hK K
              try simp only [Act.put, List.setIfInBounds_toArray, List.set_cons_zero, List.set_cons_succ]
              refine KeptTill.one (i := 16) (o := { dst := Option.none, op := Go.Op.store 22 (Go.Operand.tmp 140) (Go.Operand.tmp 132), type := 0, pos := "ref.go:43", after := #[{ on := 15, ground := Go.Ground.data }, { on := 7, ground := Go.Ground.data }, { on := 13, ground := Go.Ground.chain }, { on := 0, ground := Go.Ground.phase }, { on := 1, ground := Go.Ground.textOnly Go.Departure.lateStores }, { on := 2, ground := Go.Ground.phase }, { on := 3, ground := Go.Ground.phase }, { on := 4, ground := Go.Ground.phase }, { on := 5, ground := Go.Ground.phase }, { on := 6, ground := Go.Ground.phase }, { on := 7, ground := Go.Ground.phase }, { on := 8, ground := Go.Ground.textOnly Go.Departure.lateStores }, { on := 9, ground := Go.Ground.textOnly Go.Departure.lateStoresUnsure }, { on := 10, ground := Go.Ground.textOnly Go.Departure.lateStoresUnsure }, { on := 11, ground := Go.Ground.phase }, { on := 12, ground := Go.Ground.textOnly Go.Departure.lateStoresUnsure }, { on := 13, ground := Go.Ground.phase }], guard := Option.none }) (by kernel_rfl) (by rfl) (by rfl) ?_
              intro K hK
              go_wp2_with fail
              refine hK.out _ _ (fun h => absurd h (by decide)) ?_
              clear hK K
              try simp only [Act.put, List.setIfInBounds_toArray, List.set_cons_zero, List.set_cons_succ]
              refine KeptTill.one (i := 17) (o := { dst := Option.some 141, op := Go.Op.nilCheck (Go.Operand.tmp 126), type := 0, pos := "ref.go:43", after := #[{ on := 1, ground := Go.Ground.data }, { on := 0, ground := Go.Ground.phase }, { on := 1, ground := Go.Ground.phase }, { on := 2, ground := Go.Ground.phase }, { on := 3, ground := Go.Ground.phase }, { on := 4, ground := Go.Ground.phase }, { on := 5, ground := Go.Ground.phase }, { on := 6, ground := Go.Ground.phase }, { on := 7, ground := Go.Ground.phase }, { on := 8, ground := Go.Ground.phase }, { on := 9, ground := Go.Ground.phase }, { on := 10, ground := Go.Ground.phase }, { on := 11, ground := Go.Ground.phase }, { on := 12, ground := Go.Ground.phase }, { on := 13, ground := Go.Ground.phase }, { on := 14, ground := Go.Ground.phase }, { on := 15, ground := Go.Ground.phase }, { on := 16, ground := Go.Ground.phase }], guard := Option.none }) (by kernel_rfl) (by rfl) (by rfl) ?_
              intro K hK
              go_wp2_with fail
              refine hK.out _ _ (fun h => absurd h (by decide)) ?_
              clear hK K
              try simp only [Act.put, List.setIfInBounds_toArray, List.set_cons_zero, List.set_cons_succ]
              refine KeptTill.one (i := 18) (o := { dst := Option.some 142, op := Go.Op.fieldAddr 52 (Go.Operand.tmp 141) 2, type := 0, pos := "ref.go:43", after := #[{ on := 17, ground := Go.Ground.data }, { on := 0, ground := Go.Ground.phase }, { on := 1, ground := Go.Ground.phase }, { on := 2, ground := Go.Ground.phase }, { on := 3, ground := Go.Ground.phase }, { on := 4, ground := Go.Ground.phase }, { on := 5, ground := Go.Ground.phase }, { on := 6, ground := Go.Ground.phase }, { on := 7, ground := Go.Ground.phase }, { on := 8, ground := Go.Ground.phase }, { on := 9, ground := Go.Ground.phase }, { on := 10, ground := Go.Ground.phase }, { on := 11, ground := Go.Ground.phase }, { on := 12, ground := Go.Ground.phase }, { on := 13, ground := Go.Ground.phase }, { on := 14, ground := Go.Ground.phase }, { on := 15, ground := Go.Ground.phase }, { on := 16, ground := Go.Ground.phase }], guard := Option.none }) (by kernel_rfl) (by rfl) (by rfl) ?_
              intro K hK
              go_wp2_with fail
              refine hK.out _ _ (fun h => absurd h (by decide)) ?_
              clear hK K
              try simp only [Act.put, List.setIfInBounds_toArray, List.set_cons_zero, List.set_cons_succ]
              refine KeptTill.one (i := 19) (o := { dst := Option.none, op := Go.Op.store 46 (Go.Operand.tmp 142) (Go.Operand.tmp 138), type := 0, pos := "ref.go:43", after := #[{ on := 18, ground := Go.Ground.data }, { on := 13, ground := Go.Ground.data }, { on := 16, ground := Go.Ground.chain }, { on := 0, ground := Go.Ground.phase }, { on := 1, ground := Go.Ground.phase }, { on := 2, ground := Go.Ground.phase }, { on := 3, ground := Go.Ground.phase }, { on := 4, ground := Go.Ground.phase }, { on := 5, ground := Go.Ground.phase }, { on := 6, ground := Go.Ground.phase }, { on := 7, ground := Go.Ground.phase }, { on := 8, ground := Go.Ground.phase }, { on := 9, ground := Go.Ground.phase }, { on := 10, ground := Go.Ground.phase }, { on := 11, ground := Go.Ground.phase }, { on := 12, ground := Go.Ground.phase }, { on := 13, ground := Go.Ground.phase }, { on := 14, ground := Go.Ground.phase }, { on := 15, ground := Go.Ground.phase }, { on := 16, ground := Go.Ground.phase }], guard := Option.none }) (by kernel_rfl) (by rfl) (by rfl) ?_
              intro K hK
              go_wp2_with fail
              refine hK.out _ _ (fun h => absurd h (by decide)) ?_
              clear hK K
              try simp only [Act.put, List.setIfInBounds_toArray, List.set_cons_zero, List.set_cons_succ]
              refine KeptTill.done (by kernel_rfl) ?_ _
              go_wp2_with fail
              obtain ⟨vD2, vC2, r1, r2, r3⟩ := rpad_round M4 hI hF hN hgd hgC hlen (by have := hM.out; omega) hok.out
              have hlt2 := hlen.out
              exact ⟨⟨j + 1, vD2, vC2, .inl (by omega), r1, r2, r3⟩, by rw [r1.rlen, hI.out.rlen, padded_len]; simp only [padded_len]; omega⟩
          · have hge : off + l.length ≤ n + j := by omega
            have hj2 : Hid (j = off + l.length - s.got.length) := Lib.hid (by rw [hn.out] at hj ⊢; omega)
            have hlt' : (off : Int) + l.length ≤ (padded s j).got.length := by omega
            obtain ⟨gD, rfl⟩ : ∃ g, AD = some ⟨g, 0, none⟩ := by
              rcases own_cases hI.data with ⟨_, h0, _⟩ | ⟨g, h0, _⟩
              · omega
              · exact ⟨g, h0⟩
            obtain ⟨gC, rfl⟩ : ∃ g, AC = some ⟨g, 0, none⟩ := by
              rcases own_cases hI.came with ⟨_, h0, _⟩ | ⟨g, h0, _⟩
              · omega
              · exact ⟨g, h0⟩
            obtain ⟨N, hN'⟩ : ∃ n, (padded s j).got.length = n := ⟨_, rfl⟩
            have hml := hI.ok.len
            have hmm : (padded s j).most = M := hM.out
            have hm : N ≤ 1048576 := by omega
            clear hml hmm
            have hlN : off + l.length ≤ N := by omega
            rw [hN'] at hlt' d4 d5 hI hN hlen hD1 hC1
            replace hlen := Lib.hid hlen
            replace hI := Lib.hid hI
            replace hF := Lib.hid hF
            replace hN := Lib.hid hN
            replace hN' := Lib.hid hN'
            clear hlt hcell hj hge
            go_wp2_with fail
            go_loopw [11] (fun i w2 => ∃ k : Nat, k ≤ l.length ∧ i = .int .i64 k ∧ IsRi w2 p (.slice (some ⟨gD, 0, none⟩) N cD) (.slice (some ⟨gC, 0, none⟩) N cC) (filled (padded s j) off l k) ∧ Fr (IncS p (.slice AD0 n cD0) (.slice AC0 n cC0)) w w2) (fun i _ => l.length - (intOf i).toNat)
            case atStart => exact ⟨0, by omega, rfl, hI.out, hF.out⟩
            case round =>
              clear d4 d5
              obtain ⟨k, hk, rfl, hJ, hG⟩ := hrel
              have d3 : wr.cell? ⟨p, 3, none⟩ = some (.int .i64 s.en) := wrote_cell hJ.cell 3 _ rfl
              have d4 := wrote_cell hJ.cell 1 _ rfl
              have d5 := wrote_cell hJ.cell 2 _ rfl
              have g3 := frozen_of_row _ p 3 _ _ hJ.cell
              have hgl : (filled (padded s j) off l k).got.length = N := by simp only [filled, fills_len]; exact hN'.out
              by_cases hkl : k < l.length
              · rename_i aa; clear aa
                have hr2 := hr.fr hG (fun hn0 a ha => hA (by simpa using hn0) a ha)
                obtain ⟨b1, o1, rfl, g0⟩ := hr2.at_ (k := k) (by simpa using hkl)
                simp only [bv, List.getElem_map] at g0
                obtain ⟨y, hy⟩ : ∃ v, l[k] = v := ⟨_, rfl⟩
                have hyk : Hid (l[k]? = some y) := Lib.hid (by rw [List.getElem?_eq_getElem hkl, hy])
                rw [hy] at g0
                clear hy
                have zD := hJ.data
                have zC := hJ.came
                rw [hgl] at zD zC
                have q1 := zD.frozenAt (off + k)
                have q2 := zC.frozenAt (off + k)
                have q3 := zD.cellAt (off + k) (by omega)
                have q4 := zC.cellAt (off + k) (by omega)
                rw [bv_get (k := off + k) (by simp only [gb_length, hgl]; omega)] at q3
                rw [bo_get (k := off + k) (by simp only [gc_length, hgl]; omega)] at q4
                have hne : gD ≠ gC := by
                  have hx := own_types zD zC (by decide)
                  rcases hx with hx | hx
                  · simp [Value.ownBlock] at hx
                  · intro e; exact hx (by simp [Value.ownBlock, e])
                have hpD : p ≠ gD := by have := (zD.lt gD rfl).1; omega
                have hpC : p ≠ gC := by have := (zC.lt gC rfl).1; omega
                have hfin := rfill_fr (i := off + k) (x := .bool true) (y := .int .u8 y.toNat) hG (S := IncS p (.slice AD0 n cD0) (.slice AC0 n cC0)) (gD := gD) (gC := gC) (fun hx => (hN.out gD (.inr (.inl rfl))).resolve_right (by omega)) (fun hx => (hN.out gC (.inr (.inr rfl))).resolve_right (by omega))
                have hfill := rfill_round hJ hgl hkl hyk.out (by omega)
                replace hfin := Lib.hid hfin
                replace hfill := Lib.hid hfill
                replace hJ := Lib.hid hJ
                replace hG := Lib.hid hG
                replace zD := Lib.hid zD
                replace zC := Lib.hid zC
                replace hgl := Lib.hid hgl
                have hsum : IntKind.i64.wrap ((off : Int) + k) = (off : Int) + k := IntWalk.i64_in _ (by omega)
                go_wp2_with fail
                go_region
                go_wp2_with fail
                go_roundw
                case rel => exact ⟨k + 1, by omega, by go_num, hfill.out.fr ((Fr.refl NoS _).drew) (fun _ _ x => x), hfin.out.drew⟩
                case measure => simp [intOf]; omega
              · have hk2 : k = l.length := by omega
                subst hk2
                replace hG := Lib.hid hG
                have H0 : wr.heap[p]? = some (.cells #[.int .i64 s.most, .slice (some ⟨gD, 0, none⟩) N cD, .slice (some ⟨gC, 0, none⟩) N cC, .int .i64 s.en, .int .i64 s.rd] 52 (0, 0)) := hJ.cell
                replace hJ := Lib.hid hJ
                replace H0 := Lib.hid H0
                clear d4 d5 hgl
                cases e with
                | true =>
                  go_wp2_with fail
                  go_ret
                  exact rput_end hok.out (by rw [hM.out]; exact hb) hJ.out hG.out hN.out hj2.out hl ((Fr.refl (· = p) wr).setCell (p := ⟨p, 3, none⟩) (fun _ => rfl) _) (y := (off : Int) + l.length) (by simp [iput]) (heap_setCell_same _ p 3 _ _ _ H0.out)
                | false =>
                  go_wp2_with fail
                  go_ret
                  exact rput_end hok.out (by rw [hM.out]; exact hb) hJ.out hG.out hN.out hj2.out hl (Fr.refl (· = p) wr) (y := s.en) (by simp [iput]) H0.out
end Go.Proofs.Ytlaomllgjiochaa
