/- income.Put: a piece of at least one byte goes in. -/
import Derived.Test.YtlaomllgjiochaaIncN
import Derived.BigRegion
import Derived.Test.YtlaomllgjiochaaKept
namespace Go.Proofs.Ytlaomllgjiochaa
open Go.RowKit


set_option maxRecDepth 100000 in
set_option maxHeartbeats 8000000 in
theorem put_ok (p cc : Nat) (vD vC : Value) (s : Inc) (off : Nat) (A : Option Addr) (l : List UInt8) (e : Bool) (w : World) (h : IsInc w p vD vC s) (hr : Rd w A (bv l)) (hA : 0 < l.length → ∀ a, A = some a → ¬ IncS p vD vC a.block) (hb : (off : Int) + l.length ≤ s.most) (hc : iclash s off l e = false) (hl : 0 < l.length) :
    Calls Try.prog 10 #[.pointer (some ⟨p, 0, none⟩), .int .i64 off, .slice A l.length cc, .bool e] w (PutPost p vD vC (iput s off l e) w) := by
  have c0 := wrote_cell h.cell 0 _ rfl
  have k0 := h.ok.most0
  have k1 := h.ok.most1
  have hok := h.ok
  have CC := Lib.hid (clash_any p vD vC s off cc A l e w h hr (by omega) (by omega))
  rw [hc] at CC
  obtain ⟨ib, hib, hz0, hz1, hz2⟩ := info_parts infoBo
  obtain ⟨iu, hiu, hy0, hy1, hy2⟩ := info_parts infoB
  go_enter Try.func10, Try.ntmps10
  go_wp2_with fail
  refine CC.out.mono ?_
  rintro r w' ⟨rfl, rfl⟩
  go_wp2_with fail
  go_loopw [46] (fun _ wr => ∃ (j : Nat) (vD' vC' : Value), (s.got.length + j ≤ off + l.length ∨ j = 0) ∧ IsInc wr p vD' vC' (padded s j) ∧ Fr (IncS p vD vC) w wr ∧ ∀ k, IncS p vD' vC' k → IncS p vD vC k ∨ w.heap.size ≤ k)
    (fun _ wr => (off + l.length) - clen wr p)
  case atStart => exact ⟨0, vD, vC, .inr rfl, by simpa [padded] using h, Fr.refl _ _, fun k hk => .inl hk⟩
  case round =>
    obtain ⟨j, vD', vC', hj, hI, hF, hN⟩ := hrel
    have d4 := wrote_cell hI.cell 4 _ rfl
    have d5 := wrote_cell hI.cell 5 _ rfl
    have hcell := hI.cell
    obtain ⟨AD, cD, rfl, hD1, hD2⟩ := own_shape wr hI.data
    obtain ⟨AC, cC, rfl, hC1, hC2⟩ := own_shape wr hI.came
    have hlen : (padded s j).got.length = s.got.length + j := by simp [padded]
    by_cases hlt : s.got.length + j < off + l.length
    · have hlt' : ((padded s j).got.length : Int) < (off : Int) + l.length := by omega
      have hnD : ∀ k, (Value.slice AD (padded s j).got.length cD).ownBlock = some k → (Value.slice AC (padded s j).got.length cC).ownBlock ≠ some k := hI.apart
      obtain ⟨n, hn⟩ : ∃ n, (padded s j).got.length = n := ⟨_, rfl⟩
      have oD : wr.drew.ownsRow (p + 1) 5 1 (.slice AD n cD) n (bv (gb (padded s j).got)) := by rw [← hn]; exact hI.data
      have oC : wr.drew.ownsRow (p + 1) 4 1 (.slice AC n cC) n (bo (gc (padded s j).got)) := by rw [← hn]; exact hI.came
      have hpl : p < wr.heap.size := heap_lt hI.cell
      have hm : n ≤ 1048576 := by omega
      have hcell : wr.heap[p]? = some (.cells #[.int .i64 s.most, .int .i64 s.en, .int .i64 s.rd, .int .i64 s.hi, .slice AD (padded s j).got.length cD, .slice AC (padded s j).got.length cC] 48 (0, 0)) := hcell
      rw [hn] at hcell d4 d5 hlt' hlen hnD
      replace hlen := Lib.hid hlen
      go_wp2_with fail
      have hS0 : wr.drew.cell? ⟨p, 4, none⟩ = some (.slice AD n cD) ∧ wr.drew.cell? ⟨p, 5, none⟩ = some (.slice AC n cC) := ⟨d4, d5⟩
      have M0 : Mid wr wr.drew p (.int .i64 s.most) (.int .i64 s.en) (.int .i64 s.rd) (.int .i64 s.hi) (.slice AD n cD) (.slice AC n cC) (.slice AD n cD) (.slice AC n cC) n n (bv (gb (padded s j).got)) (bo (gc (padded s j).got)) := ⟨hcell, oD, oC, (Fr.refl _ wr).drew, fun k hk => .inl hk, fun k hk => .inl hk⟩
      have hn0 : n + 1 ≤ 1048577 := by omega
      obtain ⟨gd, hgd⟩ : ∃ gd, bv (gb (padded s j).got) = gd := ⟨_, rfl⟩
      obtain ⟨gC, hgC⟩ : ∃ gC, bo (gc (padded s j).got) = gC := ⟨_, rfl⟩
      rw [hgd, hgC] at M0
      replace hgd := Lib.hid hgd
      replace hgC := Lib.hid hgC
      replace hI := Lib.hid hI
      replace hF := Lib.hid hF
      replace hN := Lib.hid hN
      clear oD oC hnD hcell
      refine wp_region_kept (k := 16) (S := fun w' => w'.cell? ⟨p, 4, none⟩ = some (.slice AD n cD) ∧ w'.cell? ⟨p, 5, none⟩ = some (.slice AC n cC)) (by kernel_rfl) ?_
      refine KeptTill.takeP (i := 0) (oi := { dst := Option.some 58, op := Go.Op.move (Go.Operand.tmp 0), type := 24, pos := "income.go:56", after := #[], guard := Option.none }) (v := ?v0) (by rfl) (by kernel_rfl) (by kernel_rfl) (by kernel_rfl) (by rfl) (by intro c d u a w h; cases d <;> exact h) (Or.inl ⟨by rfl, ?hy0⟩) (fun _ => hS0) ?rest0
      case hy0 => intro w _; go_simp; (try with_reducible rfl)
      simp only [Act.put, List.setIfInBounds_toArray, List.set_cons_zero, List.set_cons_succ]
      refine KeptTill.takeP (i := 1) (oi := { dst := Option.some 59, op := Go.Op.move (Go.Operand.tmp 0), type := 24, pos := "income.go:56", after := #[{ on := 16, ground := Go.Ground.gcOnly Go.Departure.lateStores }], guard := Option.none }) (v := ?v1) (by rfl) (by kernel_rfl) (by kernel_rfl) (by kernel_rfl) (by rfl) (by intro c d u a w h; cases d <;> exact h) (Or.inl ⟨by rfl, ?hy1⟩) (fun _ => hS0) ?rest1
      case hy1 => intro w _; go_simp; (try with_reducible rfl)
      simp only [Act.put, List.setIfInBounds_toArray, List.set_cons_zero, List.set_cons_succ]
      refine KeptTill.takeP (i := 2) (oi := { dst := Option.some 60, op := Go.Op.move (Go.Operand.tmp 0), type := 24, pos := "income.go:56", after := #[], guard := Option.none }) (v := ?v2) (by rfl) (by kernel_rfl) (by kernel_rfl) (by kernel_rfl) (by rfl) (by intro c d u a w h; cases d <;> exact h) (Or.inl ⟨by rfl, ?hy2⟩) (fun _ => hS0) ?rest2
      case hy2 => intro w _; go_simp; (try with_reducible rfl)
      simp only [Act.put, List.setIfInBounds_toArray, List.set_cons_zero, List.set_cons_succ]
      refine KeptTill.takeP (i := 3) (oi := { dst := Option.some 61, op := Go.Op.nilCheck (Go.Operand.tmp 60), type := 0, pos := "income.go:56", after := #[{ on := 2, ground := Go.Ground.data }], guard := Option.none }) (v := ?v3) (by rfl) (by kernel_rfl) (by kernel_rfl) (by kernel_rfl) (by rfl) (by intro c d u a w h; cases d <;> exact h) (Or.inl ⟨by rfl, ?hy3⟩) (fun _ => hS0) ?rest3
      case hy3 => intro w _; go_simp; (try with_reducible rfl)
      simp only [Act.put, List.setIfInBounds_toArray, List.set_cons_zero, List.set_cons_succ]
      refine KeptTill.takeP (i := 4) (oi := { dst := Option.some 62, op := Go.Op.fieldAddr 48 (Go.Operand.tmp 61) 5, type := 0, pos := "income.go:56", after := #[{ on := 3, ground := Go.Ground.data }], guard := Option.none }) (v := ?v4) (by rfl) (by kernel_rfl) (by kernel_rfl) (by kernel_rfl) (by rfl) (by intro c d u a w h; cases d <;> exact h) (Or.inl ⟨by rfl, ?hy4⟩) (fun _ => hS0) ?rest4
      case hy4 => intro w _; go_simp; (try with_reducible rfl)
      simp only [Act.put, List.setIfInBounds_toArray, List.set_cons_zero, List.set_cons_succ]
      refine KeptTill.take (i := 5) (oi := { dst := Option.some 63, op := Go.Op.load 46 (Go.Operand.tmp 62), type := 46, pos := "income.go:56", after := #[{ on := 4, ground := Go.Ground.data }], guard := Option.none }) (v := ?v5) (by rfl) (by kernel_rfl) (by kernel_rfl) (by kernel_rfl) (by rfl) (by rfl) (by kernel_rfl) (by intro c d u a w h; cases d <;> exact h) (Or.inl ⟨by rfl, ?hy5⟩) hS0 ?rest5
      case hy5 => rintro w ⟨e4, e5⟩; go_simp; (try with_reducible rfl)
      simp only [Act.put, List.setIfInBounds_toArray, List.set_cons_zero, List.set_cons_succ]
      refine KeptTill.takeP (i := 8) (oi := { dst := Option.some 66, op := Go.Op.move (Go.Operand.tmp 0), type := 24, pos := "income.go:56", after := #[], guard := Option.none }) (v := ?v8) (by rfl) (by kernel_rfl) (by kernel_rfl) (by kernel_rfl) (by rfl) (by intro c d u a w h; cases d <;> exact h) (Or.inl ⟨by rfl, ?hy8⟩) (fun _ => hS0) ?rest8
      case hy8 => intro w _; go_simp; (try with_reducible rfl)
      simp only [Act.put, List.setIfInBounds_toArray, List.set_cons_zero, List.set_cons_succ]
      refine KeptTill.takeP (i := 9) (oi := { dst := Option.some 67, op := Go.Op.nilCheck (Go.Operand.tmp 66), type := 0, pos := "income.go:56", after := #[{ on := 8, ground := Go.Ground.data }], guard := Option.none }) (v := ?v9) (by rfl) (by kernel_rfl) (by kernel_rfl) (by kernel_rfl) (by rfl) (by intro c d u a w h; cases d <;> exact h) (Or.inl ⟨by rfl, ?hy9⟩) (fun _ => hS0) ?rest9
      case hy9 => intro w _; go_simp; (try with_reducible rfl)
      simp only [Act.put, List.setIfInBounds_toArray, List.set_cons_zero, List.set_cons_succ]
      refine KeptTill.takeP (i := 10) (oi := { dst := Option.some 68, op := Go.Op.fieldAddr 48 (Go.Operand.tmp 67) 4, type := 0, pos := "income.go:56", after := #[{ on := 9, ground := Go.Ground.data }], guard := Option.none }) (v := ?v10) (by rfl) (by kernel_rfl) (by kernel_rfl) (by kernel_rfl) (by rfl) (by intro c d u a w h; cases d <;> exact h) (Or.inl ⟨by rfl, ?hy10⟩) (fun _ => hS0) ?rest10
      case hy10 => intro w _; go_simp; (try with_reducible rfl)
      simp only [Act.put, List.setIfInBounds_toArray, List.set_cons_zero, List.set_cons_succ]
      refine KeptTill.take (i := 11) (oi := { dst := Option.some 69, op := Go.Op.load 22 (Go.Operand.tmp 68), type := 22, pos := "income.go:56", after := #[{ on := 10, ground := Go.Ground.data }], guard := Option.none }) (v := ?v11) (by rfl) (by kernel_rfl) (by kernel_rfl) (by kernel_rfl) (by rfl) (by rfl) (by kernel_rfl) (by intro c d u a w h; cases d <;> exact h) (Or.inl ⟨by rfl, ?hy11⟩) hS0 ?rest11
      case hy11 => rintro w ⟨e4, e5⟩; go_simp; (try with_reducible rfl)
      simp only [Act.put, List.setIfInBounds_toArray, List.set_cons_zero, List.set_cons_succ]
      refine KeptTill.two (i := 6) (j := 12) (o := { dst := Option.some 64, op := Go.Op.buildSlice 46 1 #[(0, Go.Operand.const (Go.Value.bool Bool.false))], type := 46, pos := "income.go:56", after := #[], guard := Option.none }) (u := { dst := Option.some 70, op := Go.Op.buildSlice 22 1 #[(0, Go.Operand.const (Go.Value.int Go.IntKind.u8 0))], type := 22, pos := "income.go:56", after := #[], guard := Option.none }) (by kernel_rfl) (by rfl) (by rfl) (by rfl) (by rfl) ?_ ?_
      · intro K hK
        go_wp2_with fail
        have M1 := M0.allocd (.cells #[.bool false] 4)
        have R6 := M0.rd (.bool false) 4
        refine hK.out _ _ (fun _ => M1.two rfl rfl) ?_
        clear hK K
        try simp only [Act.put, List.setIfInBounds_toArray, List.set_cons_zero, List.set_cons_succ]
        refine KeptTill.two (i := 7) (j := 12) (o := { dst := Option.some 65, op := Go.Op.call { callee := Go.Callee.builtin Go.Builtin.append, args := #[Go.Operand.tmp 63, Go.Operand.tmp 64], argTypes := #[46, 46] }, type := 46, pos := "income.go:56", after := #[{ on := 5, ground := Go.Ground.data }, { on := 6, ground := Go.Ground.data }], guard := Option.none }) (u := { dst := Option.some 70, op := Go.Op.buildSlice 22 1 #[(0, Go.Operand.const (Go.Value.int Go.IntKind.u8 0))], type := 22, pos := "income.go:56", after := #[], guard := Option.none }) (by kernel_rfl) (by rfl) (by rfl) (by rfl) (by rfl) ?_ ?_
        · intro K hK
          refine wp_app _ (.tmp 63) (.tmp 64) 46 rfl (p + 1) 4 ib _ 1 Try.underlying46 hib hz0 hz1 hz2 rfl _ n gC (by rfl) M1.came _ 1 1 [.bool false] (by rfl) rfl (by first | exact R6 | (have q := R6; simp at q; exact q)) (by simp [Value.oneCell']) (by unfold maxLen; omega) (by omega) M1.base ?_
          intro AC1 cC1 w7 hown7 hgrow7 hob7
          have M2 := M1.grownC hown7 hgrow7 hob7
          refine hK.out _ _ (fun _ => M2.two rfl rfl) ?_
          clear hK K
          try simp only [Act.put, List.setIfInBounds_toArray, List.set_cons_zero, List.set_cons_succ]
          refine KeptTill.one (i := 12) (o := { dst := Option.some 70, op := Go.Op.buildSlice 22 1 #[(0, Go.Operand.const (Go.Value.int Go.IntKind.u8 0))], type := 22, pos := "income.go:56", after := #[], guard := Option.none }) (by kernel_rfl) (by rfl) (by rfl) ?_
          intro K hK
          go_wp2_with fail
          have M3 := M2.allocd (.cells #[.int .u8 0] 5)
          have R12 := M2.rd (.int .u8 0) 5
          replace R6 := R6.alloc (.cells #[.int .u8 0] 5)
          refine hK.out _ _ (fun _ => M3.two rfl rfl) ?_
          clear hK K
          try simp only [Act.put, List.setIfInBounds_toArray, List.set_cons_zero, List.set_cons_succ]
          refine KeptTill.one (i := 13) (o := { dst := Option.some 71, op := Go.Op.call { callee := Go.Callee.builtin Go.Builtin.append, args := #[Go.Operand.tmp 69, Go.Operand.tmp 70], argTypes := #[22, 22] }, type := 22, pos := "income.go:56", after := #[{ on := 11, ground := Go.Ground.data }, { on := 12, ground := Go.Ground.data }, { on := 7, ground := Go.Ground.chain }], guard := Option.none }) (by kernel_rfl) (by rfl) (by rfl) ?_
          intro K hK
          refine wp_app _ (.tmp 69) (.tmp 70) 22 rfl (p + 1) 5 iu _ 1 Try.underlying22 hiu hy0 hy1 hy2 rfl _ n gd (by rfl) M3.data _ 1 1 [.int .u8 0] (by rfl) rfl (by first | exact R12 | (have q := R12; simp at q; exact q)) (by simp [Value.oneCell']) (by unfold maxLen; omega) (by omega) M3.base ?_
          intro AD1 cD1 w13 hown13 hgrow13 hob13
          have M4 := M3.grownD hown13 hgrow13 hob13
          refine hK.out _ _ (fun _ => M4.two rfl rfl) ?_
          clear hK K
          try simp only [Act.put, List.setIfInBounds_toArray, List.set_cons_zero, List.set_cons_succ]
          have q := M4.heap
          have q4 := wrote_cell q 4 _ rfl
          have q5 := wrote_cell q 5 _ rfl
          have f4 := frozen_of_row _ p 4 _ _ q
          have f5 := frozen_of_row _ p 5 _ _ q
          clear q
          refine KeptTill.one (i := 14) (o := { dst := Option.some 72, op := Go.Op.nilCheck (Go.Operand.tmp 58), type := 0, pos := "income.go:56", after := #[{ on := 0, ground := Go.Ground.data }, { on := 0, ground := Go.Ground.phase }, { on := 1, ground := Go.Ground.textOnly Go.Departure.lateStores }, { on := 2, ground := Go.Ground.phase }, { on := 3, ground := Go.Ground.phase }, { on := 4, ground := Go.Ground.phase }, { on := 5, ground := Go.Ground.phase }, { on := 6, ground := Go.Ground.phase }, { on := 7, ground := Go.Ground.phase }, { on := 8, ground := Go.Ground.textOnly Go.Departure.lateStores }, { on := 9, ground := Go.Ground.textOnly Go.Departure.lateStoresUnsure }, { on := 10, ground := Go.Ground.textOnly Go.Departure.lateStoresUnsure }, { on := 11, ground := Go.Ground.phase }, { on := 12, ground := Go.Ground.textOnly Go.Departure.lateStoresUnsure }, { on := 13, ground := Go.Ground.phase }], guard := Option.none }) (by kernel_rfl) (by rfl) (by rfl) ?_
          intro K hK
          go_wp2_with fail
          refine hK.out _ _ (fun _ => M4.two rfl rfl) ?_
          clear hK K
          try simp only [Act.put, List.setIfInBounds_toArray, List.set_cons_zero, List.set_cons_succ]
          refine KeptTill.one (i := 15) (o := { dst := Option.some 73, op := Go.Op.fieldAddr 48 (Go.Operand.tmp 72) 5, type := 0, pos := "income.go:56", after := #[{ on := 14, ground := Go.Ground.data }, { on := 0, ground := Go.Ground.phase }, { on := 1, ground := Go.Ground.textOnly Go.Departure.lateStores }, { on := 2, ground := Go.Ground.phase }, { on := 3, ground := Go.Ground.phase }, { on := 4, ground := Go.Ground.phase }, { on := 5, ground := Go.Ground.phase }, { on := 6, ground := Go.Ground.phase }, { on := 7, ground := Go.Ground.phase }, { on := 8, ground := Go.Ground.textOnly Go.Departure.lateStores }, { on := 9, ground := Go.Ground.textOnly Go.Departure.lateStoresUnsure }, { on := 10, ground := Go.Ground.textOnly Go.Departure.lateStoresUnsure }, { on := 11, ground := Go.Ground.phase }, { on := 12, ground := Go.Ground.textOnly Go.Departure.lateStoresUnsure }, { on := 13, ground := Go.Ground.phase }], guard := Option.none }) (by kernel_rfl) (by rfl) (by rfl) ?_
          intro K hK
          go_wp2_with fail
          refine hK.out _ _ (fun _ => M4.two rfl rfl) ?_
          clear hK K
          try simp only [Act.put, List.setIfInBounds_toArray, List.set_cons_zero, List.set_cons_succ]
          refine KeptTill.one (i := 16) (o := { dst := Option.none, op := Go.Op.store 46 (Go.Operand.tmp 73) (Go.Operand.tmp 65), type := 0, pos := "income.go:56", after := #[{ on := 15, ground := Go.Ground.data }, { on := 7, ground := Go.Ground.data }, { on := 13, ground := Go.Ground.chain }, { on := 0, ground := Go.Ground.phase }, { on := 1, ground := Go.Ground.textOnly Go.Departure.lateStores }, { on := 2, ground := Go.Ground.phase }, { on := 3, ground := Go.Ground.phase }, { on := 4, ground := Go.Ground.phase }, { on := 5, ground := Go.Ground.phase }, { on := 6, ground := Go.Ground.phase }, { on := 7, ground := Go.Ground.phase }, { on := 8, ground := Go.Ground.textOnly Go.Departure.lateStores }, { on := 9, ground := Go.Ground.textOnly Go.Departure.lateStoresUnsure }, { on := 10, ground := Go.Ground.textOnly Go.Departure.lateStoresUnsure }, { on := 11, ground := Go.Ground.phase }, { on := 12, ground := Go.Ground.textOnly Go.Departure.lateStoresUnsure }, { on := 13, ground := Go.Ground.phase }], guard := Option.none }) (by kernel_rfl) (by rfl) (by rfl) ?_
          intro K hK
          go_wp2_with fail
          refine hK.out _ _ (fun h => absurd h (by decide)) ?_
          clear hK K
          try simp only [Act.put, List.setIfInBounds_toArray, List.set_cons_zero, List.set_cons_succ]
          refine KeptTill.one (i := 17) (o := { dst := Option.some 74, op := Go.Op.nilCheck (Go.Operand.tmp 59), type := 0, pos := "income.go:56", after := #[{ on := 1, ground := Go.Ground.data }, { on := 0, ground := Go.Ground.phase }, { on := 1, ground := Go.Ground.phase }, { on := 2, ground := Go.Ground.phase }, { on := 3, ground := Go.Ground.phase }, { on := 4, ground := Go.Ground.phase }, { on := 5, ground := Go.Ground.phase }, { on := 6, ground := Go.Ground.phase }, { on := 7, ground := Go.Ground.phase }, { on := 8, ground := Go.Ground.phase }, { on := 9, ground := Go.Ground.phase }, { on := 10, ground := Go.Ground.phase }, { on := 11, ground := Go.Ground.phase }, { on := 12, ground := Go.Ground.phase }, { on := 13, ground := Go.Ground.phase }, { on := 14, ground := Go.Ground.phase }, { on := 15, ground := Go.Ground.phase }, { on := 16, ground := Go.Ground.phase }], guard := Option.none }) (by kernel_rfl) (by rfl) (by rfl) ?_
          intro K hK
          go_wp2_with fail
          refine hK.out _ _ (fun h => absurd h (by decide)) ?_
          clear hK K
          try simp only [Act.put, List.setIfInBounds_toArray, List.set_cons_zero, List.set_cons_succ]
          refine KeptTill.one (i := 18) (o := { dst := Option.some 75, op := Go.Op.fieldAddr 48 (Go.Operand.tmp 74) 4, type := 0, pos := "income.go:56", after := #[{ on := 17, ground := Go.Ground.data }, { on := 0, ground := Go.Ground.phase }, { on := 1, ground := Go.Ground.phase }, { on := 2, ground := Go.Ground.phase }, { on := 3, ground := Go.Ground.phase }, { on := 4, ground := Go.Ground.phase }, { on := 5, ground := Go.Ground.phase }, { on := 6, ground := Go.Ground.phase }, { on := 7, ground := Go.Ground.phase }, { on := 8, ground := Go.Ground.phase }, { on := 9, ground := Go.Ground.phase }, { on := 10, ground := Go.Ground.phase }, { on := 11, ground := Go.Ground.phase }, { on := 12, ground := Go.Ground.phase }, { on := 13, ground := Go.Ground.phase }, { on := 14, ground := Go.Ground.phase }, { on := 15, ground := Go.Ground.phase }, { on := 16, ground := Go.Ground.phase }], guard := Option.none }) (by kernel_rfl) (by rfl) (by rfl) ?_
          intro K hK
          go_wp2_with fail
          refine hK.out _ _ (fun h => absurd h (by decide)) ?_
          clear hK K
          try simp only [Act.put, List.setIfInBounds_toArray, List.set_cons_zero, List.set_cons_succ]
          refine KeptTill.one (i := 19) (o := { dst := Option.none, op := Go.Op.store 22 (Go.Operand.tmp 75) (Go.Operand.tmp 71), type := 0, pos := "income.go:56", after := #[{ on := 18, ground := Go.Ground.data }, { on := 13, ground := Go.Ground.data }, { on := 16, ground := Go.Ground.chain }, { on := 0, ground := Go.Ground.phase }, { on := 1, ground := Go.Ground.phase }, { on := 2, ground := Go.Ground.phase }, { on := 3, ground := Go.Ground.phase }, { on := 4, ground := Go.Ground.phase }, { on := 5, ground := Go.Ground.phase }, { on := 6, ground := Go.Ground.phase }, { on := 7, ground := Go.Ground.phase }, { on := 8, ground := Go.Ground.phase }, { on := 9, ground := Go.Ground.phase }, { on := 10, ground := Go.Ground.phase }, { on := 11, ground := Go.Ground.phase }, { on := 12, ground := Go.Ground.phase }, { on := 13, ground := Go.Ground.phase }, { on := 14, ground := Go.Ground.phase }, { on := 15, ground := Go.Ground.phase }, { on := 16, ground := Go.Ground.phase }], guard := Option.none }) (by kernel_rfl) (by rfl) (by rfl) ?_
          intro K hK
          go_wp2_with fail
          refine hK.out _ _ (fun h => absurd h (by decide)) ?_
          clear hK K
          try simp only [Act.put, List.setIfInBounds_toArray, List.set_cons_zero, List.set_cons_succ]
          refine KeptTill.done (by kernel_rfl) ?_ _
          go_wp2_with fail
          obtain ⟨vD2, vC2, r1, r2, r3⟩ := pad_round M4 hI hF hN hgd hgC hlen (by omega) hok
          have hlt2 := hlen.out
          exact ⟨⟨j + 1, vD2, vC2, .inl (by omega), r1, r2, r3⟩, by rw [r1.clen, hI.out.clen, padded_len]; simp only [padded_len]; omega⟩
        · intro K hK
          go_wp2_with fail
          have M2 := M1.allocd (.cells #[.int .u8 0] 5)
          have R12 := M1.rd (.int .u8 0) 5
          replace R6 := R6.alloc (.cells #[.int .u8 0] 5)
          refine hK.out _ _ (fun _ => M2.two rfl rfl) ?_
          clear hK K
          try simp only [Act.put, List.setIfInBounds_toArray, List.set_cons_zero, List.set_cons_succ]
          refine KeptTill.one (i := 7) (o := { dst := Option.some 65, op := Go.Op.call { callee := Go.Callee.builtin Go.Builtin.append, args := #[Go.Operand.tmp 63, Go.Operand.tmp 64], argTypes := #[46, 46] }, type := 46, pos := "income.go:56", after := #[{ on := 5, ground := Go.Ground.data }, { on := 6, ground := Go.Ground.data }], guard := Option.none }) (by kernel_rfl) (by rfl) (by rfl) ?_
          intro K hK
          refine wp_app _ (.tmp 63) (.tmp 64) 46 rfl (p + 1) 4 ib _ 1 Try.underlying46 hib hz0 hz1 hz2 rfl _ n gC (by rfl) M2.came _ 1 1 [.bool false] (by rfl) rfl (by first | exact R6 | (have q := R6; simp at q; exact q)) (by simp [Value.oneCell']) (by unfold maxLen; omega) (by omega) M2.base ?_
          intro AC1 cC1 w7 hown7 hgrow7 hob7
          have M3 := M2.grownC hown7 hgrow7 hob7
          replace R12 := R12.farC M1 hgrow7
          refine hK.out _ _ (fun _ => M3.two rfl rfl) ?_
          clear hK K
          try simp only [Act.put, List.setIfInBounds_toArray, List.set_cons_zero, List.set_cons_succ]
          refine KeptTill.one (i := 13) (o := { dst := Option.some 71, op := Go.Op.call { callee := Go.Callee.builtin Go.Builtin.append, args := #[Go.Operand.tmp 69, Go.Operand.tmp 70], argTypes := #[22, 22] }, type := 22, pos := "income.go:56", after := #[{ on := 11, ground := Go.Ground.data }, { on := 12, ground := Go.Ground.data }, { on := 7, ground := Go.Ground.chain }], guard := Option.none }) (by kernel_rfl) (by rfl) (by rfl) ?_
          intro K hK
          refine wp_app _ (.tmp 69) (.tmp 70) 22 rfl (p + 1) 5 iu _ 1 Try.underlying22 hiu hy0 hy1 hy2 rfl _ n gd (by rfl) M3.data _ 1 1 [.int .u8 0] (by rfl) rfl (by first | exact R12 | (have q := R12; simp at q; exact q)) (by simp [Value.oneCell']) (by unfold maxLen; omega) (by omega) M3.base ?_
          intro AD1 cD1 w13 hown13 hgrow13 hob13
          have M4 := M3.grownD hown13 hgrow13 hob13
          refine hK.out _ _ (fun _ => M4.two rfl rfl) ?_
          clear hK K
          try simp only [Act.put, List.setIfInBounds_toArray, List.set_cons_zero, List.set_cons_succ]
          have q := M4.heap
          have q4 := wrote_cell q 4 _ rfl
          have q5 := wrote_cell q 5 _ rfl
          have f4 := frozen_of_row _ p 4 _ _ q
          have f5 := frozen_of_row _ p 5 _ _ q
          clear q
          refine KeptTill.one (i := 14) (o := { dst := Option.some 72, op := Go.Op.nilCheck (Go.Operand.tmp 58), type := 0, pos := "income.go:56", after := #[{ on := 0, ground := Go.Ground.data }, { on := 0, ground := Go.Ground.phase }, { on := 1, ground := Go.Ground.textOnly Go.Departure.lateStores }, { on := 2, ground := Go.Ground.phase }, { on := 3, ground := Go.Ground.phase }, { on := 4, ground := Go.Ground.phase }, { on := 5, ground := Go.Ground.phase }, { on := 6, ground := Go.Ground.phase }, { on := 7, ground := Go.Ground.phase }, { on := 8, ground := Go.Ground.textOnly Go.Departure.lateStores }, { on := 9, ground := Go.Ground.textOnly Go.Departure.lateStoresUnsure }, { on := 10, ground := Go.Ground.textOnly Go.Departure.lateStoresUnsure }, { on := 11, ground := Go.Ground.phase }, { on := 12, ground := Go.Ground.textOnly Go.Departure.lateStoresUnsure }, { on := 13, ground := Go.Ground.phase }], guard := Option.none }) (by kernel_rfl) (by rfl) (by rfl) ?_
          intro K hK
          go_wp2_with fail
          refine hK.out _ _ (fun _ => M4.two rfl rfl) ?_
          clear hK K
          try simp only [Act.put, List.setIfInBounds_toArray, List.set_cons_zero, List.set_cons_succ]
          refine KeptTill.one (i := 15) (o := { dst := Option.some 73, op := Go.Op.fieldAddr 48 (Go.Operand.tmp 72) 5, type := 0, pos := "income.go:56", after := #[{ on := 14, ground := Go.Ground.data }, { on := 0, ground := Go.Ground.phase }, { on := 1, ground := Go.Ground.textOnly Go.Departure.lateStores }, { on := 2, ground := Go.Ground.phase }, { on := 3, ground := Go.Ground.phase }, { on := 4, ground := Go.Ground.phase }, { on := 5, ground := Go.Ground.phase }, { on := 6, ground := Go.Ground.phase }, { on := 7, ground := Go.Ground.phase }, { on := 8, ground := Go.Ground.textOnly Go.Departure.lateStores }, { on := 9, ground := Go.Ground.textOnly Go.Departure.lateStoresUnsure }, { on := 10, ground := Go.Ground.textOnly Go.Departure.lateStoresUnsure }, { on := 11, ground := Go.Ground.phase }, { on := 12, ground := Go.Ground.textOnly Go.Departure.lateStoresUnsure }, { on := 13, ground := Go.Ground.phase }], guard := Option.none }) (by kernel_rfl) (by rfl) (by rfl) ?_
          intro K hK
          go_wp2_with fail
          refine hK.out _ _ (fun _ => M4.two rfl rfl) ?_
          clear hK K
          try simp only [Act.put, List.setIfInBounds_toArray, List.set_cons_zero, List.set_cons_succ]
          refine KeptTill.one (i := 16) (o := { dst := Option.none, op := Go.Op.store 46 (Go.Operand.tmp 73) (Go.Operand.tmp 65), type := 0, pos := "income.go:56", after := #[{ on := 15, ground := Go.Ground.data }, { on := 7, ground := Go.Ground.data }, { on := 13, ground := Go.Ground.chain }, { on := 0, ground := Go.Ground.phase }, { on := 1, ground := Go.Ground.textOnly Go.Departure.lateStores }, { on := 2, ground := Go.Ground.phase }, { on := 3, ground := Go.Ground.phase }, { on := 4, ground := Go.Ground.phase }, { on := 5, ground := Go.Ground.phase }, { on := 6, ground := Go.Ground.phase }, { on := 7, ground := Go.Ground.phase }, { on := 8, ground := Go.Ground.textOnly Go.Departure.lateStores }, { on := 9, ground := Go.Ground.textOnly Go.Departure.lateStoresUnsure }, { on := 10, ground := Go.Ground.textOnly Go.Departure.lateStoresUnsure }, { on := 11, ground := Go.Ground.phase }, { on := 12, ground := Go.Ground.textOnly Go.Departure.lateStoresUnsure }, { on := 13, ground := Go.Ground.phase }], guard := Option.none }) (by kernel_rfl) (by rfl) (by rfl) ?_
          intro K hK
          go_wp2_with fail
          refine hK.out _ _ (fun h => absurd h (by decide)) ?_
          clear hK K
          try simp only [Act.put, List.setIfInBounds_toArray, List.set_cons_zero, List.set_cons_succ]
          refine KeptTill.one (i := 17) (o := { dst := Option.some 74, op := Go.Op.nilCheck (Go.Operand.tmp 59), type := 0, pos := "income.go:56", after := #[{ on := 1, ground := Go.Ground.data }, { on := 0, ground := Go.Ground.phase }, { on := 1, ground := Go.Ground.phase }, { on := 2, ground := Go.Ground.phase }, { on := 3, ground := Go.Ground.phase }, { on := 4, ground := Go.Ground.phase }, { on := 5, ground := Go.Ground.phase }, { on := 6, ground := Go.Ground.phase }, { on := 7, ground := Go.Ground.phase }, { on := 8, ground := Go.Ground.phase }, { on := 9, ground := Go.Ground.phase }, { on := 10, ground := Go.Ground.phase }, { on := 11, ground := Go.Ground.phase }, { on := 12, ground := Go.Ground.phase }, { on := 13, ground := Go.Ground.phase }, { on := 14, ground := Go.Ground.phase }, { on := 15, ground := Go.Ground.phase }, { on := 16, ground := Go.Ground.phase }], guard := Option.none }) (by kernel_rfl) (by rfl) (by rfl) ?_
          intro K hK
          go_wp2_with fail
          refine hK.out _ _ (fun h => absurd h (by decide)) ?_
          clear hK K
          try simp only [Act.put, List.setIfInBounds_toArray, List.set_cons_zero, List.set_cons_succ]
          refine KeptTill.one (i := 18) (o := { dst := Option.some 75, op := Go.Op.fieldAddr 48 (Go.Operand.tmp 74) 4, type := 0, pos := "income.go:56", after := #[{ on := 17, ground := Go.Ground.data }, { on := 0, ground := Go.Ground.phase }, { on := 1, ground := Go.Ground.phase }, { on := 2, ground := Go.Ground.phase }, { on := 3, ground := Go.Ground.phase }, { on := 4, ground := Go.Ground.phase }, { on := 5, ground := Go.Ground.phase }, { on := 6, ground := Go.Ground.phase }, { on := 7, ground := Go.Ground.phase }, { on := 8, ground := Go.Ground.phase }, { on := 9, ground := Go.Ground.phase }, { on := 10, ground := Go.Ground.phase }, { on := 11, ground := Go.Ground.phase }, { on := 12, ground := Go.Ground.phase }, { on := 13, ground := Go.Ground.phase }, { on := 14, ground := Go.Ground.phase }, { on := 15, ground := Go.Ground.phase }, { on := 16, ground := Go.Ground.phase }], guard := Option.none }) (by kernel_rfl) (by rfl) (by rfl) ?_
          intro K hK
          go_wp2_with fail
          refine hK.out _ _ (fun h => absurd h (by decide)) ?_
          clear hK K
          try simp only [Act.put, List.setIfInBounds_toArray, List.set_cons_zero, List.set_cons_succ]
          refine KeptTill.one (i := 19) (o := { dst := Option.none, op := Go.Op.store 22 (Go.Operand.tmp 75) (Go.Operand.tmp 71), type := 0, pos := "income.go:56", after := #[{ on := 18, ground := Go.Ground.data }, { on := 13, ground := Go.Ground.data }, { on := 16, ground := Go.Ground.chain }, { on := 0, ground := Go.Ground.phase }, { on := 1, ground := Go.Ground.phase }, { on := 2, ground := Go.Ground.phase }, { on := 3, ground := Go.Ground.phase }, { on := 4, ground := Go.Ground.phase }, { on := 5, ground := Go.Ground.phase }, { on := 6, ground := Go.Ground.phase }, { on := 7, ground := Go.Ground.phase }, { on := 8, ground := Go.Ground.phase }, { on := 9, ground := Go.Ground.phase }, { on := 10, ground := Go.Ground.phase }, { on := 11, ground := Go.Ground.phase }, { on := 12, ground := Go.Ground.phase }, { on := 13, ground := Go.Ground.phase }, { on := 14, ground := Go.Ground.phase }, { on := 15, ground := Go.Ground.phase }, { on := 16, ground := Go.Ground.phase }], guard := Option.none }) (by kernel_rfl) (by rfl) (by rfl) ?_
          intro K hK
          go_wp2_with fail
          refine hK.out _ _ (fun h => absurd h (by decide)) ?_
          clear hK K
          try simp only [Act.put, List.setIfInBounds_toArray, List.set_cons_zero, List.set_cons_succ]
          refine KeptTill.done (by kernel_rfl) ?_ _
          go_wp2_with fail
          obtain ⟨vD2, vC2, r1, r2, r3⟩ := pad_round M4 hI hF hN hgd hgC hlen (by omega) hok
          have hlt2 := hlen.out
          exact ⟨⟨j + 1, vD2, vC2, .inl (by omega), r1, r2, r3⟩, by rw [r1.clen, hI.out.clen, padded_len]; simp only [padded_len]; omega⟩
      · intro K hK
        go_wp2_with fail
        have M1 := M0.allocd (.cells #[.int .u8 0] 5)
        have R12 := M0.rd (.int .u8 0) 5
        refine hK.out _ _ (fun _ => M1.two rfl rfl) ?_
        clear hK K
        try simp only [Act.put, List.setIfInBounds_toArray, List.set_cons_zero, List.set_cons_succ]
        refine KeptTill.one (i := 6) (o := { dst := Option.some 64, op := Go.Op.buildSlice 46 1 #[(0, Go.Operand.const (Go.Value.bool Bool.false))], type := 46, pos := "income.go:56", after := #[], guard := Option.none }) (by kernel_rfl) (by rfl) (by rfl) ?_
        intro K hK
        go_wp2_with fail
        have M2 := M1.allocd (.cells #[.bool false] 4)
        have R6 := M1.rd (.bool false) 4
        replace R12 := R12.alloc (.cells #[.bool false] 4)
        refine hK.out _ _ (fun _ => M2.two rfl rfl) ?_
        clear hK K
        try simp only [Act.put, List.setIfInBounds_toArray, List.set_cons_zero, List.set_cons_succ]
        refine KeptTill.one (i := 7) (o := { dst := Option.some 65, op := Go.Op.call { callee := Go.Callee.builtin Go.Builtin.append, args := #[Go.Operand.tmp 63, Go.Operand.tmp 64], argTypes := #[46, 46] }, type := 46, pos := "income.go:56", after := #[{ on := 5, ground := Go.Ground.data }, { on := 6, ground := Go.Ground.data }], guard := Option.none }) (by kernel_rfl) (by rfl) (by rfl) ?_
        intro K hK
        refine wp_app _ (.tmp 63) (.tmp 64) 46 rfl (p + 1) 4 ib _ 1 Try.underlying46 hib hz0 hz1 hz2 rfl _ n gC (by rfl) M2.came _ 1 1 [.bool false] (by rfl) rfl (by first | exact R6 | (have q := R6; simp at q; exact q)) (by simp [Value.oneCell']) (by unfold maxLen; omega) (by omega) M2.base ?_
        intro AC1 cC1 w7 hown7 hgrow7 hob7
        have M3 := M2.grownC hown7 hgrow7 hob7
        replace R12 := R12.farC M0 hgrow7
        refine hK.out _ _ (fun _ => M3.two rfl rfl) ?_
        clear hK K
        try simp only [Act.put, List.setIfInBounds_toArray, List.set_cons_zero, List.set_cons_succ]
        refine KeptTill.one (i := 13) (o := { dst := Option.some 71, op := Go.Op.call { callee := Go.Callee.builtin Go.Builtin.append, args := #[Go.Operand.tmp 69, Go.Operand.tmp 70], argTypes := #[22, 22] }, type := 22, pos := "income.go:56", after := #[{ on := 11, ground := Go.Ground.data }, { on := 12, ground := Go.Ground.data }, { on := 7, ground := Go.Ground.chain }], guard := Option.none }) (by kernel_rfl) (by rfl) (by rfl) ?_
        intro K hK
        refine wp_app _ (.tmp 69) (.tmp 70) 22 rfl (p + 1) 5 iu _ 1 Try.underlying22 hiu hy0 hy1 hy2 rfl _ n gd (by rfl) M3.data _ 1 1 [.int .u8 0] (by rfl) rfl (by first | exact R12 | (have q := R12; simp at q; exact q)) (by simp [Value.oneCell']) (by unfold maxLen; omega) (by omega) M3.base ?_
        intro AD1 cD1 w13 hown13 hgrow13 hob13
        have M4 := M3.grownD hown13 hgrow13 hob13
        refine hK.out _ _ (fun _ => M4.two rfl rfl) ?_
        clear hK K
        try simp only [Act.put, List.setIfInBounds_toArray, List.set_cons_zero, List.set_cons_succ]
        have q := M4.heap
        have q4 := wrote_cell q 4 _ rfl
        have q5 := wrote_cell q 5 _ rfl
        have f4 := frozen_of_row _ p 4 _ _ q
        have f5 := frozen_of_row _ p 5 _ _ q
        clear q
        refine KeptTill.one (i := 14) (o := { dst := Option.some 72, op := Go.Op.nilCheck (Go.Operand.tmp 58), type := 0, pos := "income.go:56", after := #[{ on := 0, ground := Go.Ground.data }, { on := 0, ground := Go.Ground.phase }, { on := 1, ground := Go.Ground.textOnly Go.Departure.lateStores }, { on := 2, ground := Go.Ground.phase }, { on := 3, ground := Go.Ground.phase }, { on := 4, ground := Go.Ground.phase }, { on := 5, ground := Go.Ground.phase }, { on := 6, ground := Go.Ground.phase }, { on := 7, ground := Go.Ground.phase }, { on := 8, ground := Go.Ground.textOnly Go.Departure.lateStores }, { on := 9, ground := Go.Ground.textOnly Go.Departure.lateStoresUnsure }, { on := 10, ground := Go.Ground.textOnly Go.Departure.lateStoresUnsure }, { on := 11, ground := Go.Ground.phase }, { on := 12, ground := Go.Ground.textOnly Go.Departure.lateStoresUnsure }, { on := 13, ground := Go.Ground.phase }], guard := Option.none }) (by kernel_rfl) (by rfl) (by rfl) ?_
        intro K hK
        go_wp2_with fail
        refine hK.out _ _ (fun _ => M4.two rfl rfl) ?_
        clear hK K
        try simp only [Act.put, List.setIfInBounds_toArray, List.set_cons_zero, List.set_cons_succ]
        refine KeptTill.one (i := 15) (o := { dst := Option.some 73, op := Go.Op.fieldAddr 48 (Go.Operand.tmp 72) 5, type := 0, pos := "income.go:56", after := #[{ on := 14, ground := Go.Ground.data }, { on := 0, ground := Go.Ground.phase }, { on := 1, ground := Go.Ground.textOnly Go.Departure.lateStores }, { on := 2, ground := Go.Ground.phase }, { on := 3, ground := Go.Ground.phase }, { on := 4, ground := Go.Ground.phase }, { on := 5, ground := Go.Ground.phase }, { on := 6, ground := Go.Ground.phase }, { on := 7, ground := Go.Ground.phase }, { on := 8, ground := Go.Ground.textOnly Go.Departure.lateStores }, { on := 9, ground := Go.Ground.textOnly Go.Departure.lateStoresUnsure }, { on := 10, ground := Go.Ground.textOnly Go.Departure.lateStoresUnsure }, { on := 11, ground := Go.Ground.phase }, { on := 12, ground := Go.Ground.textOnly Go.Departure.lateStoresUnsure }, { on := 13, ground := Go.Ground.phase }], guard := Option.none }) (by kernel_rfl) (by rfl) (by rfl) ?_
        intro K hK
        go_wp2_with fail
        refine hK.out _ _ (fun _ => M4.two rfl rfl) ?_
        clear hK K
        try simp only [Act.put, List.setIfInBounds_toArray, List.set_cons_zero, List.set_cons_succ]
        refine KeptTill.one (i := 16) (o := { dst := Option.none, op := Go.Op.store 46 (Go.Operand.tmp 73) (Go.Operand.tmp 65), type := 0, pos := "income.go:56", after := #[{ on := 15, ground := Go.Ground.data }, { on := 7, ground := Go.Ground.data }, { on := 13, ground := Go.Ground.chain }, { on := 0, ground := Go.Ground.phase }, { on := 1, ground := Go.Ground.textOnly Go.Departure.lateStores }, { on := 2, ground := Go.Ground.phase }, { on := 3, ground := Go.Ground.phase }, { on := 4, ground := Go.Ground.phase }, { on := 5, ground := Go.Ground.phase }, { on := 6, ground := Go.Ground.phase }, { on := 7, ground := Go.Ground.phase }, { on := 8, ground := Go.Ground.textOnly Go.Departure.lateStores }, { on := 9, ground := Go.Ground.textOnly Go.Departure.lateStoresUnsure }, { on := 10, ground := Go.Ground.textOnly Go.Departure.lateStoresUnsure }, { on := 11, ground := Go.Ground.phase }, { on := 12, ground := Go.Ground.textOnly Go.Departure.lateStoresUnsure }, { on := 13, ground := Go.Ground.phase }], guard := Option.none }) (by kernel_rfl) (by rfl) (by rfl) ?_
        intro K hK
        go_wp2_with fail
        refine hK.out _ _ (fun h => absurd h (by decide)) ?_
        clear hK K
        try simp only [Act.put, List.setIfInBounds_toArray, List.set_cons_zero, List.set_cons_succ]
        refine KeptTill.one (i := 17) (o := { dst := Option.some 74, op := Go.Op.nilCheck (Go.Operand.tmp 59), type := 0, pos := "income.go:56", after := #[{ on := 1, ground := Go.Ground.data }, { on := 0, ground := Go.Ground.phase }, { on := 1, ground := Go.Ground.phase }, { on := 2, ground := Go.Ground.phase }, { on := 3, ground := Go.Ground.phase }, { on := 4, ground := Go.Ground.phase }, { on := 5, ground := Go.Ground.phase }, { on := 6, ground := Go.Ground.phase }, { on := 7, ground := Go.Ground.phase }, { on := 8, ground := Go.Ground.phase }, { on := 9, ground := Go.Ground.phase }, { on := 10, ground := Go.Ground.phase }, { on := 11, ground := Go.Ground.phase }, { on := 12, ground := Go.Ground.phase }, { on := 13, ground := Go.Ground.phase }, { on := 14, ground := Go.Ground.phase }, { on := 15, ground := Go.Ground.phase }, { on := 16, ground := Go.Ground.phase }], guard := Option.none }) (by kernel_rfl) (by rfl) (by rfl) ?_
        intro K hK
        go_wp2_with fail
        refine hK.out _ _ (fun h => absurd h (by decide)) ?_
        clear hK K
        try simp only [Act.put, List.setIfInBounds_toArray, List.set_cons_zero, List.set_cons_succ]
        refine KeptTill.one (i := 18) (o := { dst := Option.some 75, op := Go.Op.fieldAddr 48 (Go.Operand.tmp 74) 4, type := 0, pos := "income.go:56", after := #[{ on := 17, ground := Go.Ground.data }, { on := 0, ground := Go.Ground.phase }, { on := 1, ground := Go.Ground.phase }, { on := 2, ground := Go.Ground.phase }, { on := 3, ground := Go.Ground.phase }, { on := 4, ground := Go.Ground.phase }, { on := 5, ground := Go.Ground.phase }, { on := 6, ground := Go.Ground.phase }, { on := 7, ground := Go.Ground.phase }, { on := 8, ground := Go.Ground.phase }, { on := 9, ground := Go.Ground.phase }, { on := 10, ground := Go.Ground.phase }, { on := 11, ground := Go.Ground.phase }, { on := 12, ground := Go.Ground.phase }, { on := 13, ground := Go.Ground.phase }, { on := 14, ground := Go.Ground.phase }, { on := 15, ground := Go.Ground.phase }, { on := 16, ground := Go.Ground.phase }], guard := Option.none }) (by kernel_rfl) (by rfl) (by rfl) ?_
        intro K hK
        go_wp2_with fail
        refine hK.out _ _ (fun h => absurd h (by decide)) ?_
        clear hK K
        try simp only [Act.put, List.setIfInBounds_toArray, List.set_cons_zero, List.set_cons_succ]
        refine KeptTill.one (i := 19) (o := { dst := Option.none, op := Go.Op.store 22 (Go.Operand.tmp 75) (Go.Operand.tmp 71), type := 0, pos := "income.go:56", after := #[{ on := 18, ground := Go.Ground.data }, { on := 13, ground := Go.Ground.data }, { on := 16, ground := Go.Ground.chain }, { on := 0, ground := Go.Ground.phase }, { on := 1, ground := Go.Ground.phase }, { on := 2, ground := Go.Ground.phase }, { on := 3, ground := Go.Ground.phase }, { on := 4, ground := Go.Ground.phase }, { on := 5, ground := Go.Ground.phase }, { on := 6, ground := Go.Ground.phase }, { on := 7, ground := Go.Ground.phase }, { on := 8, ground := Go.Ground.phase }, { on := 9, ground := Go.Ground.phase }, { on := 10, ground := Go.Ground.phase }, { on := 11, ground := Go.Ground.phase }, { on := 12, ground := Go.Ground.phase }, { on := 13, ground := Go.Ground.phase }, { on := 14, ground := Go.Ground.phase }, { on := 15, ground := Go.Ground.phase }, { on := 16, ground := Go.Ground.phase }], guard := Option.none }) (by kernel_rfl) (by rfl) (by rfl) ?_
        intro K hK
        go_wp2_with fail
        refine hK.out _ _ (fun h => absurd h (by decide)) ?_
        clear hK K
        try simp only [Act.put, List.setIfInBounds_toArray, List.set_cons_zero, List.set_cons_succ]
        refine KeptTill.done (by kernel_rfl) ?_ _
        go_wp2_with fail
        obtain ⟨vD2, vC2, r1, r2, r3⟩ := pad_round M4 hI hF hN hgd hgC hlen (by omega) hok
        have hlt2 := hlen.out
        exact ⟨⟨j + 1, vD2, vC2, .inl (by omega), r1, r2, r3⟩, by rw [r1.clen, hI.out.clen, padded_len]; simp only [padded_len]; omega⟩
    · have hge : off + l.length ≤ s.got.length + j := by omega
      have hj2 : j = off + l.length - s.got.length := by omega
      have hlt' : (off : Int) + l.length ≤ (padded s j).got.length := by omega
      obtain ⟨gD, rfl⟩ : ∃ g, AD = some ⟨g, 0, none⟩ := by
        rcases own_cases hI.data with ⟨_, h0, _⟩ | ⟨g, h0, _⟩
        · omega
        · exact ⟨g, h0⟩
      obtain ⟨gC, rfl⟩ : ∃ g, AC = some ⟨g, 0, none⟩ := by
        rcases own_cases hI.came with ⟨_, h0, _⟩ | ⟨g, h0, _⟩
        · omega
        · exact ⟨g, h0⟩
      have hi0 := h.ok.hi0
      have hi1 := h.ok.hi1
      obtain ⟨n, hn⟩ : ∃ n, (padded s j).got.length = n := ⟨_, rfl⟩
      have hml := hI.ok.len
      have hmm : (padded s j).most = s.most := rfl
      have hm : n ≤ 1048576 := by omega
      clear hml hmm
      have hlN : off + l.length ≤ n := by omega
      rw [hn] at hlt' d4 d5 hI hN hlen hD1 hC1
      replace hlen := Lib.hid hlen
      replace hI := Lib.hid hI
      replace hF := Lib.hid hF
      replace hN := Lib.hid hN
      replace hn := Lib.hid hn
      replace hj2 := Lib.hid hj2
      clear hlt hcell
      go_wp2_with fail
      go_loopw [78] (fun i w2 => ∃ k : Nat, k ≤ l.length ∧ i = .int .i64 k ∧ IsInc w2 p (.slice (some ⟨gD, 0, none⟩) n cD) (.slice (some ⟨gC, 0, none⟩) n cC) (filled (padded s j) off l k) ∧ Fr (IncS p vD vC) w w2) (fun i _ => l.length - (intOf i).toNat)
      case atStart => exact ⟨0, by omega, rfl, hI.out, hF.out⟩
      case round =>
        clear d4 d5
        obtain ⟨k, hk, rfl, hJ, hG⟩ := hrel
        have d1 := wrote_cell hJ.cell 1 _ rfl
        have d3 : wr.cell? ⟨p, 3, none⟩ = some (.int .i64 s.hi) := wrote_cell hJ.cell 3 _ rfl
        have d4 := wrote_cell hJ.cell 4 _ rfl
        have d5 := wrote_cell hJ.cell 5 _ rfl
        have g3 := frozen_of_row _ p 3 _ _ hJ.cell
        have g1 := frozen_of_row _ p 1 _ _ hJ.cell
        have hgl : (filled (padded s j) off l k).got.length = n := by simp only [filled, fills_len]; exact hn.out
        by_cases hkl : k < l.length
        · have hr2 := hr.fr hG (fun hn0 a ha => hA (by simpa using hn0) a ha)
          obtain ⟨b1, o1, rfl, g0⟩ := hr2.at_ (k := k) (by simpa using hkl)
          simp only [bv, List.getElem_map] at g0
          obtain ⟨y, hy⟩ : ∃ v, l[k] = v := ⟨_, rfl⟩
          have hyk : Hid (l[k]? = some y) := Lib.hid (by rw [List.getElem?_eq_getElem hkl, hy])
          rw [hy] at g0
          clear hy
          have zD := hJ.data
          have zC := hJ.came
          rw [hgl] at zD zC
          have q1 := zD.frozenAt (off + k)
          have q2 := zC.frozenAt (off + k)
          have q3 := zD.cellAt (off + k) (by omega)
          have q4 := zC.cellAt (off + k) (by omega)
          rw [bv_get (k := off + k) (by simp only [gb_length, hgl]; omega)] at q3
          rw [bo_get (k := off + k) (by simp only [gc_length, hgl]; omega)] at q4
          have hne : gD ≠ gC := by
            have hx := own_types zD zC (by decide)
            rcases hx with hx | hx
            · simp [Value.ownBlock] at hx
            · intro e; exact hx (by simp [Value.ownBlock, e])
          have hpD : p ≠ gD := by have := (zD.lt gD rfl).1; omega
          have hpC : p ≠ gC := by have := (zC.lt gC rfl).1; omega
          have hfin := fill_fr (i := off + k) (x := .bool true) (y := .int .u8 y.toNat) hG (S := IncS p vD vC) (gD := gD) (gC := gC) (fun hx => (hN.out gD (.inr (.inl rfl))).resolve_right (by omega)) (fun hx => (hN.out gC (.inr (.inr rfl))).resolve_right (by omega))
          have hfill := fill_round hJ hgl hkl hyk.out (by omega)
          replace hfin := Lib.hid hfin
          replace hfill := Lib.hid hfill
          replace hJ := Lib.hid hJ
          replace hG := Lib.hid hG
          replace zD := Lib.hid zD
          replace zC := Lib.hid zC
          replace hgl := Lib.hid hgl
          have hsum : IntKind.i64.wrap ((off : Int) + k) = (off : Int) + k := IntWalk.i64_in _ (by omega)
          go_wp2_with fail
          go_region
          go_wp2_with fail
          go_roundw
          case rel => exact ⟨k + 1, by omega, by go_num, hfill.out.fr ((Fr.refl NoS _).drew) (fun _ _ x => x), hfin.out.drew⟩
          case measure => simp [intOf]; omega
        · have hk2 : k = l.length := by omega
          subst hk2
          replace hG := Lib.hid hG
          have H0 : wr.heap[p]? = some (.cells #[.int .i64 s.most, .int .i64 s.en, .int .i64 s.rd, .int .i64 s.hi, .slice (some ⟨gD, 0, none⟩) n cD, .slice (some ⟨gC, 0, none⟩) n cC] 48 (0, 0)) := hJ.cell
          replace hJ := Lib.hid hJ
          replace H0 := Lib.hid H0
          have hne : Hid (¬ l = []) := Lib.hid (by intro h; rw [h] at hl; simp at hl)
          cases e with
          | true =>
            go_wp2_with fail
            all_goals
              go_ret
              exact put_end hok hb hJ.out hG.out hN.out hj2.out hl ((((Fr.refl (· = p) wr).setCell (p := ⟨p, 3, none⟩) (fun _ => rfl) _).setCell (p := ⟨p, 1, none⟩) (fun _ => rfl) _).setCell (p := ⟨p, 3, none⟩) (fun _ => rfl) _) (y := (off : Int) + l.length) (z := (off : Int) + l.length) (by simp [iput]) (by simp [iput])
                (heap_setCell_same _ p 3 _ _ _ (heap_setCell_same _ p 1 _ _ _ (heap_setCell_same _ p 3 _ _ _ H0.out)))
          | false =>
            go_wp2_with fail
            all_goals
              go_ret
              refine put_end hok hb hJ.out hG.out hN.out hj2.out hl (((Fr.refl (· = p) wr).setCell (p := ⟨p, 3, none⟩) (fun _ => rfl) _)) (y := s.en) ?_ ?_ (heap_setCell_same _ p 3 _ _ _ H0.out)
              · simp [iput]
              · simp only [iput, Bool.false_eq_true, if_false, if_neg hne.out]; omega
end Go.Proofs.Ytlaomllgjiochaa
