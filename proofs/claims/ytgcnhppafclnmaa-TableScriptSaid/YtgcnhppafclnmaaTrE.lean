/- TableScript answers true at every input. -/
import Derived.Test.YtgcnhppafclnmaaTrD
namespace Go.Proofs.Ytgcnhppafclnmaa
open Go.RowKit

theorem wpAnyH_mono {P : Program} {md : Region.Mode} {ops : Array Oper} {Q : Exit → Act → World → Prop} {S T : World → Prop} (h : ∀ w, S w → T w) :
    ∀ (fuel : Nat) (listed : Array Bool) (a : Act) (w : World), wpAnyH P md ops Q S fuel listed a w → wpAnyH P md ops Q T fuel listed a w
  | 0, _, _, _, H => H
  | fuel + 1, _, _, _, H => ⟨H.1, fun i hi => wpOp_mono (fun a' w' h' => ⟨h _ h'.1, wpAnyH_mono h fuel _ a' w' h'.2⟩) (H.2 i hi)⟩
set_option maxRecDepth 100000 in
set_option maxHeartbeats 8000000 in
theorem tscript_in (M : Nat) (hM : M ≤ 512) (l : List Fd) (gs : List Int) (A0 A1 : Option Addr) (cap0 cap1 N n1 : Nat) (w : World) (hN : l.length = N) (hr : Rd w A0 (fdv l)) (hN60 : N ≤ 60) (hsz : ∀ x ∈ l, x.name.size ≤ reachBytes ∧ x.value.size ≤ reachBytes)
    (hg : gs.length = n1) (hrg : Rd w A1 (gs.map (Value.int .u64))) (hn60 : n1 ≤ 60) (hgb : ∀ x ∈ gs, 0 ≤ x ∧ x ≤ 18446744073709551615) :
    Calls Try.prog 3 #[.int .i64 M, .slice A0 N cap0, .slice A1 n1 cap1] w fun e w' => e = .returned (.bool true) ∧ Below w.heap.size w w' := by
  have b1 : decide ((60 : Int) < (N : Int)) = false := decide_eq_false (by omega)
  have b2 : decide ((60 : Int) < (n1 : Int)) = false := decide_eq_false (by omega)
  have b3 : decide ((M : Int) < 0) = false := decide_eq_false (by omega)
  have b4 : decide ((512 : Int) < (M : Int)) = false := decide_eq_false (by omega)
  have b4' : decide (512 < M) = false := decide_eq_false (by omega)
  have HR := Lib.hid hr
  have HG := Lib.hid hrg
  replace hsz := Lib.hid hsz
  replace hN := Lib.hid hN
  replace hg := Lib.hid hg
  replace hgb := Lib.hid hgb
  clear hr hrg
  go_enter Try.func3, Try.ntmps3
  go_wp2_with fail
  refine (tnew_at (fun k => k < w.heap.size) w (fun _ h => h) M hM).mono ?_
  rintro e w1 ⟨pa, rfl, H1, hb1⟩
  have HS0 := Lib.hid (SkSt.start hM H1 hb1 ((Below.refl _ w1).alloc (Nat.le_refl _) (.cells #[.int .i64 M, .slice none 0 0, .int .i64 0] 36)) (Nat.le_refl _) (heap_alloc_new w1 _))
  clear H1 hb1
  go_wp2_with fail
  obtain ⟨pb, hpb⟩ : ∃ pb, w1.heap.size = pb := ⟨_, rfl⟩
  rw [hpb] at HS0 ⊢
  replace hpb := Lib.hid hpb
  clear b1 b2 b3 b4 b4'
  go_loopw [11] (fun i wr => ∃ (k : Nat) (t : Tb), k ≤ N ∧ i = .int .i64 k ∧ Hid (∃ P, SkSt w wr P pa pb t t) ∧ Hid (t.Ok ∧ t.most = M ∧ t.F.length ≤ k)) (fun i _ => N - (intOf i).toNat)
  case atStart => exact ⟨0, tnew M, by omega, rfl, Lib.hid ⟨_, HS0.out⟩, Lib.hid ⟨tnew_ok M, rfl, Nat.le_refl _⟩⟩
  case round =>
    clear HS0
    obtain ⟨k, t, hk, rfl, HS, HT⟩ := hrel
    by_cases hkN : k < N
    · rename_i aa; clear aa
      have hkl : k < l.length := by rw [hN.out]; exact hkN
      obtain ⟨b0, o0, hA0, hcells⟩ : ∃ b off, A0 = some ⟨b, off, none⟩ ∧ Hid (∀ W, Below w.heap.size w W → W.cell? ⟨b, off + k * 2, none⟩ = some (.string (l[k]).name) ∧ W.cell? ⟨b, off + k * 2 + 1, none⟩ = some (.string (l[k]).value)) := by
        obtain ⟨b, off, rfl, -, -⟩ := load_fd HR.out hkl
        refine ⟨b, off, rfl, Lib.hid fun W hW => ?_⟩
        obtain ⟨b2, off2, e, h2, h3⟩ := load_fd (HR.out.below hW) hkl
        injection e with e
        injection e with e1 e2
        subst e1 e2
        exact ⟨h2, h3⟩
      subst hA0
      have hszk := hsz.out _ (List.getElem_mem hkl)
      obtain ⟨f, hf⟩ : ∃ f, l[k] = f := ⟨_, rfl⟩
      rw [hf] at hcells hszk
      obtain ⟨a, b⟩ := f
      simp only at hcells hszk
      obtain ⟨sa, hsa⟩ : ∃ sa, a.size = sa := ⟨_, rfl⟩
      obtain ⟨sb, hsb⟩ : ∃ sb, b.size = sb := ⟨_, rfl⟩
      have hq : sa ≤ 140737488351232 ∧ sb ≤ 140737488351232 := by
        rw [← hsa, ← hsb]; have := hszk; unfold reachBytes at this; exact ⟨by omega, by omega⟩
      obtain ⟨hq1, hq2⟩ := hq
      obtain ⟨P, S0⟩ := HS.out
      have hbW := S0.below
      obtain ⟨x0, x1⟩ := hcells.out _ hbW
      replace S0 := Lib.hid S0
      clear HS hszk hf hkl hbW
      by_cases h100 : 100 < sa + sb
      · have d1 : decide ((100 : Int) < (sa : Int) + (sb : Int)) = true := decide_eq_true (by omega)
        go_wp2_with fail
        go_big_quiet (fail)
        go_wp2_with fail
        refine (awake_any _).mono ?_
        rintro e wf ⟨rfl, hbf⟩
        go_wp2_with fail
        go_ret
        have bb := S0.out.below.trans ((Still.drewN _ nq).below.mono S0.out.below.size)
        exact ⟨rfl, bb.trans (hbf.mono bb.size)⟩
      · have d1 : decide ((100 : Int) < (sa : Int) + (sb : Int)) = false := decide_eq_false (by omega)
        obtain ⟨s, hs⟩ : ∃ s, a.size + b.size + 32 = s := ⟨_, rfl⟩
        have hs0 : sa + sb + 32 = s := by omega
        have hsb92 : s ≤ 1000000 := by omega
        go_wp2_with fail
        go_big_quiet (fail)
        clear x0 x1 d1
        obtain ⟨W1, hW1⟩ : ∃ W1, wr.drewN nq = W1 := ⟨_, rfl⟩
        replace S0 := S0.out.bel (Still.drewN wr nq).below
        rw [hW1] at S0 ⊢
        obtain ⟨x0, x1⟩ := hcells.out _ S0.below
        replace S0 := Lib.hid S0
        replace hW1 := Lib.hid hW1
        replace hs := Lib.hid hs
        obtain ⟨p, hp⟩ : ∃ p, decide (s ≤ M) = p := ⟨_, rfl⟩
        have hpm : decide (s ≤ t.most) = p := by rw [HT.out.2.1]; exact hp
        obtain ⟨t', ht'⟩ : ∃ t', t.ins ⟨a, b⟩ = t' := ⟨_, rfl⟩
        have OKT : Hid t'.Ok := Lib.hid (by rw [← ht']; exact t.ins_ok _ HT.out.1)
        have HT' : Hid (t'.Ok ∧ t'.most = M ∧ t'.F.length ≤ k + 1) := Lib.hid ⟨OKT.out, by rw [← ht', t.ins_most]; exact HT.out.2.1, by
          rw [← ht']
          unfold Tb.ins
          split
          · simp; exact HT.out.2.2
          · have := HT.out.2.2; omega⟩
        obtain ⟨n', hn'⟩ : ∃ n', t'.F.length = n' := ⟨_, rfl⟩
        have hn60 : Hid (n' ≤ 61) := Lib.hid (by have := HT'.out.2.2; omega)
        have hwn : IntKind.u64.wrap (n' : Int) = (n' : Int) := by rw [IntKind.wrap_u64]; have := hn60.out; omega
        obtain ⟨u, hu⟩ : ∃ u, t'.used = u := ⟨_, rfl⟩
        have hpp : (p != p) = false := by simp
        replace hpm := Lib.hid hpm
        replace ht' := Lib.hid ht'
        replace hn' := Lib.hid hn'
        replace hu := Lib.hid hu
        replace hp := Lib.hid hp
        have hkI : (k : Int) < (N : Int) := by omega
        go_wp2_with fail
        go_cut [142] from 99 to 142 (fun v wx => v = .bool false ∧ Hid (∃ P, SkSt w wx P pa pb t' t'))
        case first =>
          have S1 := Lib.hid (S0.out.bel (Still.drew W1).below)
          have y00 : W1.drew.cell? ⟨b0, o0 + k * 2, none⟩ = some (.string a) ∧ W1.drew.cell? ⟨b0, o0 + k * 2 + 1, none⟩ = some (.string b) := hcells.out _ S1.out.below
          clear x0 x1
          refine wp_region_held_drew (S := fun W => W.cell? ⟨b0, o0 + k * 2, none⟩ = some (.string a) ∧ W.cell? ⟨b0, o0 + k * 2 + 1, none⟩ = some (.string b)) (by kernel_rfl) y00 (fun hHeld => ?_)
          refine wpAnyH_take (i := 0) (v := ?_) rfl (by kernel_rfl) (by kernel_rfl) (by kernel_rfl) (fun _ _ _ h => h) (Or.inl ⟨by rfl, ?_⟩) (by assumption) ?_
          rotate_left 1
          · (intro w hSw; (try dsimp only at hSw); (try go_split_ands); go_simp; try with_reducible rfl)
          try simp only [Act.put, List.setIfInBounds_toArray, List.set_cons_zero, List.set_cons_succ, List.getElem_toArray, List.getElem_cons_zero, List.getElem_cons_succ]
          refine wpAnyH_take (i := 1) (v := ?_) rfl (by kernel_rfl) (by kernel_rfl) (by kernel_rfl) (fun _ _ _ h => h) (Or.inl ⟨by rfl, ?_⟩) (by assumption) ?_
          rotate_left 1
          · (intro w hSw; (try dsimp only at hSw); (try go_split_ands); go_simp; try with_reducible rfl)
          try simp only [Act.put, List.setIfInBounds_toArray, List.set_cons_zero, List.set_cons_succ, List.getElem_toArray, List.getElem_cons_zero, List.getElem_cons_succ]
          refine wpAnyH_take (i := 2) (v := ?_) rfl (by kernel_rfl) (by kernel_rfl) (by kernel_rfl) (fun _ _ _ h => h) (Or.inl ⟨by rfl, ?_⟩) (by assumption) ?_
          rotate_left 1
          · (intro w hSw; (try dsimp only at hSw); (try go_split_ands); go_simp; try with_reducible rfl)
          try simp only [Act.put, List.setIfInBounds_toArray, List.set_cons_zero, List.set_cons_succ, List.getElem_toArray, List.getElem_cons_zero, List.getElem_cons_succ]
          refine wpAnyH_take (i := 3) (v := ?_) rfl (by kernel_rfl) (by kernel_rfl) (by kernel_rfl) (fun _ _ _ h => h) (Or.inl ⟨by rfl, ?_⟩) (by assumption) ?_
          rotate_left 1
          · (intro w hSw; (try dsimp only at hSw); (try go_split_ands); go_simp; try with_reducible rfl)
          try simp only [Act.put, List.setIfInBounds_toArray, List.set_cons_zero, List.set_cons_succ, List.getElem_toArray, List.getElem_cons_zero, List.getElem_cons_succ]
          refine wpAnyH_take (i := 4) (v := ?_) rfl (by kernel_rfl) (by kernel_rfl) (by kernel_rfl) (fun _ _ _ h => h) (Or.inl ⟨by rfl, ?_⟩) (by assumption) ?_
          rotate_left 1
          · (intro w hSw; (try dsimp only at hSw); (try go_split_ands); go_simp; try with_reducible rfl)
          try simp only [Act.put, List.setIfInBounds_toArray, List.set_cons_zero, List.set_cons_succ, List.getElem_toArray, List.getElem_cons_zero, List.getElem_cons_succ]
          refine wpAnyH_take (i := 6) (v := ?_) rfl (by kernel_rfl) (by kernel_rfl) (by kernel_rfl) (fun _ _ _ h => h) (Or.inl ⟨by rfl, ?_⟩) (by assumption) ?_
          rotate_left 1
          · (intro w hSw; (try dsimp only at hSw); (try go_split_ands); go_simp; try with_reducible rfl)
          try simp only [Act.put, List.setIfInBounds_toArray, List.set_cons_zero, List.set_cons_succ, List.getElem_toArray, List.getElem_cons_zero, List.getElem_cons_succ]
          refine wpAnyH_take (i := 7) (v := ?_) rfl (by kernel_rfl) (by kernel_rfl) (by kernel_rfl) (fun _ _ _ h => h) (Or.inl ⟨by rfl, ?_⟩) (by assumption) ?_
          rotate_left 1
          · (intro w hSw; (try dsimp only at hSw); (try go_split_ands); go_simp; try with_reducible rfl)
          try simp only [Act.put, List.setIfInBounds_toArray, List.set_cons_zero, List.set_cons_succ, List.getElem_toArray, List.getElem_cons_zero, List.getElem_cons_succ]
          refine wpAnyH_take (i := 8) (v := ?_) rfl (by kernel_rfl) (by kernel_rfl) (by kernel_rfl) (fun _ _ _ h => h) (Or.inl ⟨by rfl, ?_⟩) (by assumption) ?_
          rotate_left 1
          · (intro w hSw; (try dsimp only at hSw); (try go_split_ands); go_simp; try with_reducible rfl)
          try simp only [Act.put, List.setIfInBounds_toArray, List.set_cons_zero, List.set_cons_succ, List.getElem_toArray, List.getElem_cons_zero, List.getElem_cons_succ]
          refine wpAnyH_take (i := 9) (v := ?_) rfl (by kernel_rfl) (by kernel_rfl) (by kernel_rfl) (fun _ _ _ h => h) (Or.inl ⟨by rfl, ?_⟩) (by assumption) ?_
          rotate_left 1
          · (intro w hSw; (try dsimp only at hSw); (try go_split_ands); go_simp; try with_reducible rfl)
          try simp only [Act.put, List.setIfInBounds_toArray, List.set_cons_zero, List.set_cons_succ, List.getElem_toArray, List.getElem_cons_zero, List.getElem_cons_succ]
          refine wpAnyH_take (i := 10) (v := ?_) rfl (by kernel_rfl) (by kernel_rfl) (by kernel_rfl) (fun _ _ _ h => h) (Or.inl ⟨by rfl, ?_⟩) (by assumption) ?_
          rotate_left 1
          · (intro w hSw; (try dsimp only at hSw); (try go_split_ands); go_simp; try with_reducible rfl)
          try simp only [Act.put, List.setIfInBounds_toArray, List.set_cons_zero, List.set_cons_succ, List.getElem_toArray, List.getElem_cons_zero, List.getElem_cons_succ]
          refine wpAnyH_ready (rs := [5]) (by kernel_rfl) (by simp) ?_
          refine AllReadyH.cons rfl (fun K hK => ?_) AllReadyH.nil
          go_simp; go_at_call 10; refine (ski_l S1.out t' p a b s hs.out hsb92 (by have := HT.out.2.2; omega) hpm.out ht'.out).mono ?_; rintro e w2 ⟨rfl, S2⟩; replace S2 := Lib.hid S2
          refine hK.out _ _ (hcells.out _ S2.out.below) (fun hHeld => ?_)
          clear hK K
          try simp only [Act.put, List.setIfInBounds_toArray, List.set_cons_zero, List.set_cons_succ, List.getElem_toArray, List.getElem_cons_zero, List.getElem_cons_succ]
          refine wpAnyH_ready (rs := [11]) (by kernel_rfl) (by simp) ?_
          refine AllReadyH.cons rfl (fun K hK => ?_) AllReadyH.nil
          go_simp; go_at_call 12; refine (ski_r S2.out t' p a b s hs.out hsb92 (by have := HT.out.2.2; omega) hpm.out ht'.out).mono ?_; rintro e w3 ⟨rfl, S3⟩; obtain ⟨Aw, cw, Rw⟩ := S3.rt; replace Rw := Lib.hid Rw; replace S3 := Lib.hid S3
          refine hK.out _ _ (hcells.out _ S3.out.below) (fun hHeld => ?_)
          clear hK K
          try simp only [Act.put, List.setIfInBounds_toArray, List.set_cons_zero, List.set_cons_succ, List.getElem_toArray, List.getElem_cons_zero, List.getElem_cons_succ]
          refine wpAnyH_take (i := 12) (v := ?_) rfl (by kernel_rfl) (by kernel_rfl) (by kernel_rfl) (fun _ _ _ h => h) (Or.inl ⟨by rfl, ?_⟩) (by assumption) ?_
          rotate_left 1
          · (intro w hSw; (try dsimp only at hSw); (try go_split_ands); go_simp; try with_reducible rfl)
          try simp only [Act.put, List.setIfInBounds_toArray, List.set_cons_zero, List.set_cons_succ, List.getElem_toArray, List.getElem_cons_zero, List.getElem_cons_succ]
          refine wpAnyH_take (i := 13) (v := ?_) rfl (by kernel_rfl) (by kernel_rfl) (by kernel_rfl) (fun _ _ _ h => h) (Or.inl ⟨by rfl, ?_⟩) (by assumption) ?_
          rotate_left 1
          · (intro w hSw; (try dsimp only at hSw); (try go_split_ands); go_simp; try with_reducible rfl)
          try simp only [Act.put, List.setIfInBounds_toArray, List.set_cons_zero, List.set_cons_succ, List.getElem_toArray, List.getElem_cons_zero, List.getElem_cons_succ]
          refine wpAnyH_take (i := 14) (v := ?_) rfl (by kernel_rfl) (by kernel_rfl) (by kernel_rfl) (fun _ _ _ h => h) (Or.inl ⟨by rfl, ?_⟩) (by assumption) ?_
          rotate_left 1
          · (intro w hSw; (try dsimp only at hSw); (try go_split_ands); go_simp; try with_reducible rfl)
          try simp only [Act.put, List.setIfInBounds_toArray, List.set_cons_zero, List.set_cons_succ, List.getElem_toArray, List.getElem_cons_zero, List.getElem_cons_succ]
          refine wpAnyH_take (i := 16) (v := ?_) rfl (by kernel_rfl) (by kernel_rfl) (by kernel_rfl) (fun _ _ _ h => h) (Or.inl ⟨by rfl, ?_⟩) (by assumption) ?_
          rotate_left 1
          · (intro w hSw; (try dsimp only at hSw); (try go_split_ands); go_simp; try with_reducible rfl)
          try simp only [Act.put, List.setIfInBounds_toArray, List.set_cons_zero, List.set_cons_succ, List.getElem_toArray, List.getElem_cons_zero, List.getElem_cons_succ]
          refine wpAnyH_take (i := 17) (v := ?_) rfl (by kernel_rfl) (by kernel_rfl) (by kernel_rfl) (fun _ _ _ h => h) (Or.inl ⟨by rfl, ?_⟩) (by assumption) ?_
          rotate_left 1
          · (intro w hSw; (try dsimp only at hSw); (try go_split_ands); go_simp; try with_reducible rfl)
          try simp only [Act.put, List.setIfInBounds_toArray, List.set_cons_zero, List.set_cons_succ, List.getElem_toArray, List.getElem_cons_zero, List.getElem_cons_succ]
          refine wpAnyH_take (i := 18) (v := ?_) rfl (by kernel_rfl) (by kernel_rfl) (by kernel_rfl) (fun _ _ _ h => h) (Or.inl ⟨by rfl, ?_⟩) (by assumption) ?_
          rotate_left 1
          · (intro w hSw; (try dsimp only at hSw); (try go_split_ands); go_simp; try with_reducible rfl)
          try simp only [Act.put, List.setIfInBounds_toArray, List.set_cons_zero, List.set_cons_succ, List.getElem_toArray, List.getElem_cons_zero, List.getElem_cons_succ]
          have KP : Hid (∀ W, Below w3.heap.size w3 W → (W.cell? ⟨b0, o0 + k * 2, none⟩ = some (.string a) ∧ W.cell? ⟨b0, o0 + k * 2 + 1, none⟩ = some (.string b)) ∧ W.cell? ⟨pb, 1, none⟩ = some (.slice Aw n' cw)) := Lib.hid (fun W hW => ⟨hcells.out _ (S3.out.below.trans (hW.mono S3.out.below.size)), by have := wrote_cell (Rw.out.below hW).cell 1 _ rfl; rw [hn'.out] at this; exact this⟩)
          refine wpAnyH_mono (S := fun W => (W.cell? ⟨b0, o0 + k * 2, none⟩ = some (.string a) ∧ W.cell? ⟨b0, o0 + k * 2 + 1, none⟩ = some (.string b)) ∧ W.cell? ⟨pb, 1, none⟩ = some (.slice Aw n' cw)) (fun W h => h.1) _ _ _ _ ?_
          replace hHeld := KP.out w3 (Below.refl _ _)
          refine wpAnyH_take (i := 19) (v := ?_) rfl (by kernel_rfl) (by kernel_rfl) (by kernel_rfl) (fun _ _ _ h => h) (Or.inl ⟨by rfl, ?_⟩) (by assumption) ?_
          rotate_left 1
          · (intro w hSw; (try dsimp only at hSw); (try go_split_ands); go_simp; try with_reducible rfl)
          try simp only [Act.put, List.setIfInBounds_toArray, List.set_cons_zero, List.set_cons_succ, List.getElem_toArray, List.getElem_cons_zero, List.getElem_cons_succ]
          refine wpAnyH_take (i := 20) (v := ?_) rfl (by kernel_rfl) (by kernel_rfl) (by kernel_rfl) (fun _ _ _ h => h) (Or.inl ⟨by rfl, ?_⟩) (by assumption) ?_
          rotate_left 1
          · (intro w hSw; (try dsimp only at hSw); (try go_split_ands); go_simp; try with_reducible rfl)
          try simp only [Act.put, List.setIfInBounds_toArray, List.set_cons_zero, List.set_cons_succ, List.getElem_toArray, List.getElem_cons_zero, List.getElem_cons_succ]
          refine wpAnyH_take (i := 21) (v := ?_) rfl (by kernel_rfl) (by kernel_rfl) (by kernel_rfl) (fun _ _ _ h => h) (Or.inl ⟨by rfl, ?_⟩) (by assumption) ?_
          rotate_left 1
          · (intro w hSw; (try dsimp only at hSw); (try go_split_ands); go_simp; try with_reducible rfl)
          try simp only [Act.put, List.setIfInBounds_toArray, List.set_cons_zero, List.set_cons_succ, List.getElem_toArray, List.getElem_cons_zero, List.getElem_cons_succ]
          refine wpAnyH_ready (rs := [15]) (by kernel_rfl) (by simp) ?_
          refine AllReadyH.cons rfl (fun K hK => ?_) AllReadyH.nil
          go_simp; go_at_call 11; refine (skc_l S3.out n' hn'.out).mono ?_; rintro e w4 ⟨rfl, S4, b4⟩; replace S4 := Lib.hid S4; replace b4 := Lib.hid b4
          refine hK.out _ _ (KP.out _ b4.out) (fun hHeld => ?_)
          clear hK K
          try simp only [Act.put, List.setIfInBounds_toArray, List.set_cons_zero, List.set_cons_succ, List.getElem_toArray, List.getElem_cons_zero, List.getElem_cons_succ]
          refine wpAnyH_take (i := 22) (v := ?_) rfl (by kernel_rfl) (by kernel_rfl) (by kernel_rfl) (fun _ _ _ h => h) (Or.inl ⟨by rfl, ?_⟩) (by assumption) ?_
          rotate_left 1
          · (intro w hSw; (try dsimp only at hSw); (try go_split_ands); go_simp; try with_reducible rfl)
          try simp only [Act.put, List.setIfInBounds_toArray, List.set_cons_zero, List.set_cons_succ, List.getElem_toArray, List.getElem_cons_zero, List.getElem_cons_succ]
          refine wpAnyH_take (i := 23) (v := ?_) rfl (by kernel_rfl) (by kernel_rfl) (by kernel_rfl) (fun _ _ _ h => h) (Or.inl ⟨by rfl, ?_⟩) (by assumption) ?_
          rotate_left 1
          · (intro w hSw; (try dsimp only at hSw); (try go_split_ands); go_simp; try with_reducible rfl)
          try simp only [Act.put, List.setIfInBounds_toArray, List.set_cons_zero, List.set_cons_succ, List.getElem_toArray, List.getElem_cons_zero, List.getElem_cons_succ]
          refine wpAnyH_take (i := 24) (v := ?_) rfl (by kernel_rfl) (by kernel_rfl) (by kernel_rfl) (fun _ _ _ h => h) (Or.inl ⟨by rfl, ?_⟩) (by assumption) ?_
          rotate_left 1
          · (intro w hSw; (try dsimp only at hSw); (try go_split_ands); go_simp; try with_reducible rfl)
          try simp only [Act.put, List.setIfInBounds_toArray, List.set_cons_zero, List.set_cons_succ, List.getElem_toArray, List.getElem_cons_zero, List.getElem_cons_succ]
          refine wpAnyH_take (i := 25) (v := ?_) rfl (by kernel_rfl) (by kernel_rfl) (by kernel_rfl) (fun _ _ _ h => h) (Or.inl ⟨by rfl, ?_⟩) (by assumption) ?_
          rotate_left 1
          · (intro w hSw; (try dsimp only at hSw); (try go_split_ands); go_simp; try with_reducible rfl)
          try simp only [Act.put, List.setIfInBounds_toArray, List.set_cons_zero, List.set_cons_succ, List.getElem_toArray, List.getElem_cons_zero, List.getElem_cons_succ]
          refine wpAnyH_take (i := 27) (v := ?_) rfl (by kernel_rfl) (by kernel_rfl) (by kernel_rfl) (fun _ _ _ h => h) (Or.inl ⟨by rfl, ?_⟩) (by assumption) ?_
          rotate_left 1
          · (intro w hSw; (try dsimp only at hSw); (try go_split_ands); go_simp; try with_reducible rfl)
          try simp only [Act.put, List.setIfInBounds_toArray, List.set_cons_zero, List.set_cons_succ, List.getElem_toArray, List.getElem_cons_zero, List.getElem_cons_succ]
          refine wpAnyH_ready (rs := [26]) (by kernel_rfl) (by simp) ?_
          refine AllReadyH.cons rfl (fun K hK => ?_) AllReadyH.nil
          go_simp; go_at_call 13; refine (sku_l S4.out u hu.out).mono ?_; rintro e w5 ⟨rfl, S5, b5⟩; replace S5 := Lib.hid S5; replace b5 := Lib.hid (b4.out.trans (b5.mono b4.out.size))
          refine hK.out _ _ (KP.out _ b5.out) (fun hHeld => ?_)
          clear hK K
          try simp only [Act.put, List.setIfInBounds_toArray, List.set_cons_zero, List.set_cons_succ, List.getElem_toArray, List.getElem_cons_zero, List.getElem_cons_succ]
          refine wpAnyH_ready (rs := [28]) (by kernel_rfl) (by simp) ?_
          refine AllReadyH.cons rfl (fun K hK => ?_) AllReadyH.nil
          go_simp; go_at_call 14; refine (sku_r S5.out u hu.out).mono ?_; rintro e w6 ⟨rfl, S6, b6⟩; replace S6 := Lib.hid S6; replace b6 := Lib.hid (b5.out.trans (b6.mono b5.out.size))
          refine hK.out _ _ (KP.out _ b6.out) (fun hHeld => ?_)
          clear hK K
          try simp only [Act.put, List.setIfInBounds_toArray, List.set_cons_zero, List.set_cons_succ, List.getElem_toArray, List.getElem_cons_zero, List.getElem_cons_succ]
          refine wpAnyH_take (i := 29) (v := ?_) rfl (by kernel_rfl) (by kernel_rfl) (by kernel_rfl) (fun _ _ _ h => h) (Or.inl ⟨by rfl, ?_⟩) (by assumption) ?_
          rotate_left 1
          · (intro w hSw; (try dsimp only at hSw); (try go_split_ands); go_simp; try with_reducible rfl)
          try simp only [Act.put, List.setIfInBounds_toArray, List.set_cons_zero, List.set_cons_succ, List.getElem_toArray, List.getElem_cons_zero, List.getElem_cons_succ]
          refine wpAnyH_take (i := 30) (v := ?_) rfl (by kernel_rfl) (by kernel_rfl) (by kernel_rfl) (fun _ _ _ h => h) (Or.inl ⟨by rfl, ?_⟩) (by assumption) ?_
          rotate_left 1
          · (intro w hSw; (try dsimp only at hSw); (try go_split_ands); go_simp; try with_reducible rfl)
          try simp only [Act.put, List.setIfInBounds_toArray, List.set_cons_zero, List.set_cons_succ, List.getElem_toArray, List.getElem_cons_zero, List.getElem_cons_succ]
          refine wpAnyH_take (i := 31) (v := ?_) rfl (by kernel_rfl) (by kernel_rfl) (by kernel_rfl) (fun _ _ _ h => h) (Or.inl ⟨by rfl, ?_⟩) (by assumption) ?_
          rotate_left 1
          · (intro w hSw; (try dsimp only at hSw); (try go_split_ands); go_simp; try with_reducible rfl)
          try simp only [Act.put, List.setIfInBounds_toArray, List.set_cons_zero, List.set_cons_succ, List.getElem_toArray, List.getElem_cons_zero, List.getElem_cons_succ]
          refine wpAnyH_take (i := 32) (v := ?_) rfl (by kernel_rfl) (by kernel_rfl) (by kernel_rfl) (fun _ _ _ h => h) (Or.inl ⟨by rfl, ?_⟩) (by assumption) ?_
          rotate_left 1
          · (intro w hSw; (try dsimp only at hSw); (try go_split_ands); go_simp; try with_reducible rfl)
          try simp only [Act.put, List.setIfInBounds_toArray, List.set_cons_zero, List.set_cons_succ, List.getElem_toArray, List.getElem_cons_zero, List.getElem_cons_succ]
          refine wpAnyH_take (i := 33) (v := ?_) rfl (by kernel_rfl) (by kernel_rfl) (by kernel_rfl) (fun _ _ _ h => h) (Or.inl ⟨by rfl, ?_⟩) (by assumption) ?_
          rotate_left 1
          · (intro w hSw; (try dsimp only at hSw); (try go_split_ands); go_simp; try with_reducible rfl)
          try simp only [Act.put, List.setIfInBounds_toArray, List.set_cons_zero, List.set_cons_succ, List.getElem_toArray, List.getElem_cons_zero, List.getElem_cons_succ]
          refine wpAnyH_take (i := 34) (v := ?_) rfl (by kernel_rfl) (by kernel_rfl) (by kernel_rfl) (fun _ _ _ h => h) (Or.inl ⟨by rfl, ?_⟩) (by assumption) ?_
          rotate_left 1
          · (intro w hSw; (try dsimp only at hSw); (try go_split_ands); go_simp; try with_reducible rfl)
          try simp only [Act.put, List.setIfInBounds_toArray, List.set_cons_zero, List.set_cons_succ, List.getElem_toArray, List.getElem_cons_zero, List.getElem_cons_succ]
          refine wpAnyH_take (i := 35) (v := ?_) rfl (by kernel_rfl) (by kernel_rfl) (by kernel_rfl) (fun _ _ _ h => h) (Or.inl ⟨by rfl, ?_⟩) (by assumption) ?_
          rotate_left 1
          · (intro w hSw; (try dsimp only at hSw); (try go_split_ands); go_simp; try with_reducible rfl)
          try simp only [Act.put, List.setIfInBounds_toArray, List.set_cons_zero, List.set_cons_succ, List.getElem_toArray, List.getElem_cons_zero, List.getElem_cons_succ]
          refine wpAnyH_take (i := 37) (v := ?_) rfl (by kernel_rfl) (by kernel_rfl) (by kernel_rfl) (fun _ _ _ h => h) (Or.inl ⟨by rfl, ?_⟩) (by assumption) ?_
          rotate_left 1
          · (intro w hSw; (try dsimp only at hSw); (try go_split_ands); go_simp; try with_reducible rfl)
          try simp only [Act.put, List.setIfInBounds_toArray, List.set_cons_zero, List.set_cons_succ, List.getElem_toArray, List.getElem_cons_zero, List.getElem_cons_succ]
          refine wpAnyH_take (i := 38) (v := ?_) rfl (by kernel_rfl) (by kernel_rfl) (by kernel_rfl) (fun _ _ _ h => h) (Or.inl ⟨by rfl, ?_⟩) (by assumption) ?_
          rotate_left 1
          · (intro w hSw; (try dsimp only at hSw); (try go_split_ands); go_simp; try with_reducible rfl)
          try simp only [Act.put, List.setIfInBounds_toArray, List.set_cons_zero, List.set_cons_succ, List.getElem_toArray, List.getElem_cons_zero, List.getElem_cons_succ]
          refine wpAnyH_take (i := 39) (v := ?_) rfl (by kernel_rfl) (by kernel_rfl) (by kernel_rfl) (fun _ _ _ h => h) (Or.inl ⟨by rfl, ?_⟩) (by assumption) ?_
          rotate_left 1
          · (intro w hSw; (try dsimp only at hSw); (try go_split_ands); go_simp; try with_reducible rfl)
          try simp only [Act.put, List.setIfInBounds_toArray, List.set_cons_zero, List.set_cons_succ, List.getElem_toArray, List.getElem_cons_zero, List.getElem_cons_succ]
          refine wpAnyH_take (i := 40) (v := ?_) rfl (by kernel_rfl) (by kernel_rfl) (by kernel_rfl) (fun _ _ _ h => h) (Or.inl ⟨by rfl, ?_⟩) (by assumption) ?_
          rotate_left 1
          · (intro w hSw; (try dsimp only at hSw); (try go_split_ands); go_simp; try with_reducible rfl)
          try simp only [Act.put, List.setIfInBounds_toArray, List.set_cons_zero, List.set_cons_succ, List.getElem_toArray, List.getElem_cons_zero, List.getElem_cons_succ]
          refine wpAnyH_ready (rs := [36]) (by kernel_rfl) (by simp) ?_
          refine AllReadyH.cons rfl (fun K hK => ?_) AllReadyH.nil
          go_simp; go_at_call 15; refine (sks_l S6.out a b s hs.out hsb92).mono ?_; rintro e w7 ⟨rfl, S7, b7⟩; replace S7 := Lib.hid S7; replace b7 := Lib.hid (b6.out.trans (b7.mono b6.out.size))
          refine hK.out _ _ (KP.out _ b7.out) (fun hHeld => ?_)
          clear hK K
          try simp only [Act.put, List.setIfInBounds_toArray, List.set_cons_zero, List.set_cons_succ, List.getElem_toArray, List.getElem_cons_zero, List.getElem_cons_succ]
          refine wpAnyH_ready (rs := [41]) (by kernel_rfl) (by simp) ?_
          refine AllReadyH.cons rfl (fun K hK => ?_) AllReadyH.nil
          go_simp; go_at_call 16; refine (sks_r S7.out a b s hs.out hsb92).mono ?_; rintro e w8 ⟨rfl, S8, b8⟩; replace S8 := Lib.hid S8; replace b8 := Lib.hid (b7.out.trans (b8.mono b7.out.size))
          refine hK.out _ _ (KP.out _ b8.out) (fun hHeld => ?_)
          clear hK K
          try simp only [Act.put, List.setIfInBounds_toArray, List.set_cons_zero, List.set_cons_succ, List.getElem_toArray, List.getElem_cons_zero, List.getElem_cons_succ]
          refine wpAnyH_take (i := 42) (v := ?_) rfl (by kernel_rfl) (by kernel_rfl) (by kernel_rfl) (fun _ _ _ h => h) (Or.inl ⟨by rfl, ?_⟩) (by assumption) ?_
          rotate_left 1
          · (intro w hSw; (try dsimp only at hSw); (try go_split_ands); go_simp; try with_reducible rfl)
          try simp only [Act.put, List.setIfInBounds_toArray, List.set_cons_zero, List.set_cons_succ, List.getElem_toArray, List.getElem_cons_zero, List.getElem_cons_succ]
          refine wpAnyH_take (i := 43) (v := ?_) rfl (by kernel_rfl) (by kernel_rfl) (by kernel_rfl) (fun _ _ _ h => h) (Or.inl ⟨by rfl, ?_⟩) (by assumption) ?_
          rotate_left 1
          · (intro w hSw; (try dsimp only at hSw); (try go_split_ands); go_simp; try with_reducible rfl)
          try simp only [Act.put, List.setIfInBounds_toArray, List.set_cons_zero, List.set_cons_succ, List.getElem_toArray, List.getElem_cons_zero, List.getElem_cons_succ]
          refine wpAnyH_done (by kernel_rfl) ?_ _
          clear hHeld
          go_wp2_with fail
          go_meet
          exact ⟨rfl, Lib.hid ⟨_, S8.out⟩⟩
        case rest =>
          obtain ⟨rfl, HS9⟩ := hcut
          obtain ⟨P9, S9⟩ := HS9.out
          clear S0 HS9 x0 x1 hwn hpp
          obtain ⟨x0, x1⟩ := hcells.out _ S9.below
          have x0a := fun o => Lib.cell?_alloc_some o x0
          have x1a := fun o => Lib.cell?_alloc_some o x1
          obtain ⟨⟨f1, c1, c2⟩, hf1⟩ : ∃ z, t'.find ⟨a, b⟩ = z := ⟨_, rfl⟩
          obtain ⟨⟨f2, c3, c4⟩, hf2⟩ : ∃ z, t'.find ⟨a, ⟨#[63]⟩⟩ = z := ⟨_, rfl⟩
          have e1 : (c1 != c1) = false := by simp
          have e2 : (c2 != c2) = false := by simp
          have e3 : (c3 != c3) = false := by simp
          have e4 : (c4 != c4) = false := by simp
          replace hf1 := Lib.hid hf1
          replace hf2 := Lib.hid hf2
          replace S9 := Lib.hid S9
          go_wp2_with fail
          clear x0 x1 x0a x1a
          obtain ⟨W10, hW10⟩ : ∃ W10, wc.alloc (.cells #[.string a, .string ⟨#[63]⟩] 28) = W10 := ⟨_, rfl⟩
          have b10 := (Below.refl _ wc).alloc (Nat.le_refl _) (.cells #[.string a, .string ⟨#[63]⟩] 28)
          have O10 := HasRow.new wc 28 #[.string a, .string ⟨#[63]⟩]
          rw [hW10] at b10 O10 ⊢
          obtain ⟨ob, hob⟩ : ∃ ob, wc.heap.size = ob := ⟨_, rfl⟩
          have S10 := S9.out.bel b10
          rw [hob] at O10 ⊢
          replace hW10 := Lib.hid hW10
          replace hob := Lib.hid hob
          clear b10 S9
          refine (skf_l S10 a b f1 c1 c2 hf1.out).mono ?_
          rintro e w11 ⟨rfl, S11, b11⟩
          replace O10 := O10.below b11
          obtain ⟨x0, x1⟩ := hcells.out _ S11.below
          replace S11 := Lib.hid S11
          replace O10 := Lib.hid O10
          clear S10 b11
          go_wp2_with fail
          refine (skf_r S11.out a b f1 c1 c2 hf1.out).mono ?_
          rintro e w12 ⟨rfl, S12, b12⟩
          replace O10 := O10.out.below b12
          clear x0 x1 S11 b12
          have x0 := O10.cell 0 _ rfl
          have x1 := O10.cell 1 _ rfl
          replace S12 := Lib.hid S12
          replace O10 := Lib.hid O10
          go_wp2_with fail
          refine (skf_l S12.out a ⟨#[63]⟩ f2 c3 c4 hf2.out).mono ?_
          rintro e w13 ⟨rfl, S13, b13⟩
          replace O10 := O10.out.below b13
          clear x0 x1 S12 b13
          have x0 := O10.cell 0 _ rfl
          have x1 := O10.cell 1 _ rfl
          replace S13 := Lib.hid S13
          replace O10 := Lib.hid O10
          go_wp2_with fail
          refine (skf_r S13.out a ⟨#[63]⟩ f2 c3 c4 hf2.out).mono ?_
          rintro e w14 ⟨rfl, S14, b14⟩
          clear x0 x1 S13 b14 O10
          replace S14 := Lib.hid S14
          by_cases hkn : k < n1
          · have hkg : k < gs.length := by rw [hg.out]; exact hkn
            obtain ⟨bg, og0, hA1, gcells⟩ : ∃ b off, A1 = some ⟨b, off, none⟩ ∧ Hid (∀ W, Below w.heap.size w W → W.cell? ⟨b, off + k, none⟩ = some (.int .u64 gs[k])) := by
              obtain ⟨b, off, rfl, -⟩ := HG.out.at_ (k := k) (by simpa using hkg)
              refine ⟨b, off, rfl, Lib.hid fun W hW => ?_⟩
              obtain ⟨b2, off2, e, h2⟩ := (HG.out.below hW).at_ (k := k) (by simpa using hkg)
              injection e with e
              injection e with e1 e2
              subst e1 e2
              rw [h2, List.getElem_map]
            subst hA1
            obtain ⟨hz0, hz1⟩ := hgb.out _ (List.getElem_mem hkg)
            obtain ⟨z, hz⟩ : ∃ z : Nat, gs[k] = (z : Int) := ⟨(gs[k]).toNat, by omega⟩
            have hzb : z < 18446744073709551616 := by omega
            rw [hz] at gcells
            obtain ⟨⟨gx, gy⟩, hgt⟩ : ∃ f, (t'.get z).getD fd0 = f := ⟨_, rfl⟩
            obtain ⟨ok, hok⟩ : ∃ ok, (t'.get z).isSome = ok := ⟨_, rfl⟩
            have eok : (ok != ok) = false := by simp
            have g0 := gcells.out _ S14.out.below
            have hknI : (k : Int) < (n1 : Int) := by omega
            replace hgt := Lib.hid hgt
            replace hok := Lib.hid hok
            replace hzb := Lib.hid hzb
            clear hz hz0 hz1 hkg
            go_wp2_with fail
            clear e1 e2 e3 e4 g0
            refine (skg_l S14.out z hzb.out gx gy ok hgt.out hok.out).mono ?_
            rintro e w15 ⟨rfl, S15, b15⟩
            have g0 := fun o => gcells.out _ (S15.below.trans (((Below.refl _ w15).alloc (Nat.le_refl _) o).mono S15.below.size))
            replace S15 := Lib.hid S15
            clear S14 b15
            go_wp2_with fail
            clear g0
            obtain ⟨W16, hW16⟩ : ∃ W16, w15.alloc (.cells #[.string gx, .string gy] 28) = W16 := ⟨_, rfl⟩
            have b16 := (Below.refl _ w15).alloc (Nat.le_refl _) (.cells #[.string gx, .string gy] 28)
            have O16 := HasRow.new w15 28 #[.string gx, .string gy]
            rw [hW16] at b16 O16 ⊢
            obtain ⟨og1, hog1⟩ : ∃ og1, w15.heap.size = og1 := ⟨_, rfl⟩
            have S16 := S15.out.bel b16
            rw [hog1] at O16 ⊢
            replace hW16 := Lib.hid hW16
            replace hog1 := Lib.hid hog1
            clear b16 S15
            refine (skg_r S16 z hzb.out gx gy ok hgt.out hok.out).mono ?_
            rintro e w17 ⟨rfl, S17, b17⟩
            have O17 := O16.below b17
            have x0 := fun o => Lib.cell?_alloc_some o (O17.cell 0 _ rfl)
            have x1 := fun o => Lib.cell?_alloc_some o (O17.cell 1 _ rfl)
            have SZ : Hid (∀ o, SkSt w (w17.alloc o) P9 pa pb t' t') := Lib.hid (fun o => S17.bel ((Below.refl _ w17).alloc (Nat.le_refl _) o))
            clear S16 b17 O16 O17 S17
            go_wp2_with fail
            have S18 := SZ.out (.cells #[.string gx, .string gy] 28)
            clear x0 x1 SZ eok
            obtain ⟨w18, hw18⟩ : ∃ w18, w17.alloc (.cells #[.string gx, .string gy] 28) = w18 := ⟨_, rfl⟩
            rw [hw18] at S18 ⊢
            replace hw18 := Lib.hid hw18
            clear hpm
            -- the list, and what is written over it
            replace S18 := Lib.hid S18
            have htl := t'.len_add OKT.out
            obtain ⟨l', hl'⟩ : ∃ l', t'.l = l' := ⟨_, rfl⟩
            obtain ⟨q, hq⟩ : ∃ q, l'.length = q := ⟨_, rfl⟩
            obtain ⟨g', hg'⟩ : ∃ g', t'.gone = g' := ⟨_, rfl⟩
            rw [hl', hq, hg', hn'.out] at htl
            have hqb : q ≤ 1000 := by have := hn60.out; omega
            have hdr : t'.F.drop g' = l' := by rw [← hl', Tb.l, hg']
            replace hl' := Lib.hid hl'
            replace hq := Lib.hid hq
            replace hg' := Lib.hid hg'
            replace hdr := Lib.hid hdr
            go_wp2_with fail
            refine (skl_l S18.out l' q hl'.out hq.out).mono ?_
            rintro e w20 ⟨Ag, cg, rfl, og, S20⟩
            obtain ⟨P20, hP20⟩ : ∃ P20 : Nat → Prop, (fun x => P9 x ∨ (w18.heap.size ≤ x ∧ x < w20.heap.size)) = P20 := ⟨_, rfl⟩
            rw [hP20] at S20
            have hgP : Hid (∀ g, Ag = some ⟨g, 0, none⟩ → P20 g ∧ w.heap.size ≤ g) := Lib.hid (fun g hA => by
              subst hA
              have := og.lt g rfl
              have hs := S18.out.below.size
              rw [← hP20]
              exact ⟨.inr ⟨by omega, this.2⟩, by omega⟩)
            replace hP20 := Lib.hid hP20
            obtain ⟨Aw, cw, Rw⟩ := S20.rt
            have k1 := wrote_cell Rw.cell 1 _ rfl
            have k2 := wrote_cell Rw.cell 2 _ rfl
            have hcw := Rw.cap
            rw [hn'.out] at k1 hcw
            rw [hg'.out] at k2
            have hsl := cutS_l (P := Try.prog) Try.underlying22 infoF Aw n' cw g' q (g' : Int) rfl (by omega) hcw.1
            obtain ⟨Xw, hXw⟩ : ∃ Xw, (if cw = g' then Aw else Aw.map (·.add (g' * 2))) = Xw := ⟨_, rfl⟩
            obtain ⟨cX, hcX⟩ : ∃ cX, cw - g' = cX := ⟨_, rfl⟩
            rw [hXw, hcX] at hsl
            have RX : Rd w20 Xw (fdv l') := by
              have h := Rw.rd.dropS (k := g') (len := n') (cap := cw) (s := 2) (by omega) hcw.1 (by rw [fdv_len, hn'.out])
              rw [hXw, ← fdv_drop, hdr.out] at h
              exact h
            have CS : Hid (∀ W, Below w20.heap.size w20 W → Calls Try.prog 21 #[.slice Ag q cg, .slice Xw q cX] W fun e w' => e = .returned (.bool true) ∧ Still W w') := Lib.hid (fun W hW => samef_n true l' l' q q hq.out hq.out Ag Xw cg cX W ((Rd.of_ownS og).below hW) (RX.below hW) (by omega) (by omega) (decide_eq_true rfl))
            have D20 := Lib.hid (Still.drew w20).below
            have kp : Hid (∀ W, Below w20.heap.size w20 W → W.cell? ⟨pb, 1, none⟩ = some (.slice Aw n' cw) ∧ W.cell? ⟨pb, 2, none⟩ = some (.int .i64 g')) := Lib.hid (fun W hW => ⟨by have := wrote_cell (Rw.below hW).cell 1 _ rfl; rw [hn'.out] at this; exact this, by have := wrote_cell (Rw.below hW).cell 2 _ rfl; rw [hg'.out] at this; exact this⟩)
            replace hXw := Lib.hid hXw
            replace hcX := Lib.hid hcX
            replace og := Lib.hid og
            replace S20 := Lib.hid S20
            clear RX Rw hcw S18
            go_wp2_with fail
            go_region_held3 (fun W => W.cell? ⟨pb, 1, none⟩ = some (.slice Aw n' cw) ∧ W.cell? ⟨pb, 2, none⟩ = some (.int .i64 g')) (first | assumption | go_keep) (first
              | (go_at_call 21; refine (CS.out _ D20.out).mono ?_; rintro e w21 ⟨rfl, S21⟩; have b21 := Lib.hid (D20.out.trans (S21.below.mono D20.out.size)); have kq := kp.out _ b21.out; clear S21))
            have S21 := Lib.hid (S20.out.bel b21.out)
            have o21 := Lib.hid (own_fr og.out (Fr.of_below b21.out NoS) (fun _ _ x => x))
            clear k1 k2 kq CS D20 kp og S20 b21 hsl
            go_wp2_with fail
            go_loopw [30] (fun i wq => ∃ j : Nat, j ≤ q ∧ i = .int .i64 j ∧ Hid (∃ xs, xs.length = q * 2 ∧ wq.ownsRow w18.heap.size 28 2 (.slice Ag q cg) q xs) ∧ Hid (SkSt w wq P20 pa pb t' t')) (fun i _ => q - (intOf i).toNat)
            case atStart => exact ⟨0, by omega, rfl, Lib.hid ⟨_, by rw [fdv_len, hq.out], o21.out⟩, S21⟩
            case round =>
              clear S21 o21
              obtain ⟨j, hj, rfl, HO, HS⟩ := hrel
              by_cases hjq : j < q
              · rename_i aa; clear aa
                obtain ⟨xs, hxs, o1⟩ := HO.out
                obtain ⟨g, hA⟩ : ∃ g, Ag = some ⟨g, 0, none⟩ := by
                  rcases ownS_cases o1 with ⟨_, h2, _⟩ | ⟨g, h1, _⟩
                  · omega
                  · exact ⟨g, h1⟩
                subst hA
                have z0 := o1.cellAt (j * 2) (by omega)
                rw [List.getElem?_eq_getElem (by omega)] at z0
                obtain ⟨u, hu⟩ : ∃ u, some (xs[j * 2]'(by omega)) = some u := ⟨_, rfl⟩
                rw [hu] at z0
                have z1 := o1.frozenAt (j * 2)
                have st := (o1.stored (j * 2) (.string ⟨#[103, 111, 110, 101]⟩)).1
                have HF : Hid (∀ W, W = wr.setCell ⟨g, j * 2, none⟩ (.string ⟨#[103, 111, 110, 101]⟩) → (∃ xs, xs.length = q * 2 ∧ W.ownsRow w18.heap.size 28 2 (.slice (some ⟨g, 0, none⟩) q cg) q xs) ∧ SkSt w W P20 pa pb t' t') := Lib.hid (by
                  rintro W rfl
                  exact ⟨⟨_, by rw [List.length_set]; exact hxs, st⟩, HS.out.over (hgP.out g rfl).1 (hgP.out g rfl).2 ((Fr.refl (fun k => k = g) wr).setCell (p := ⟨g, j * 2, none⟩) (fun _ => rfl) _)⟩)
                have hjI : (j : Int) < (q : Int) := by omega
                replace hu := Lib.hid hu
                replace hxs := Lib.hid hxs
                clear HO HS st o1
                go_wp2_with fail
                go_roundw
                case rel => exact ⟨j + 1, by omega, by go_num, Lib.hid (HF.out _ rfl).1, Lib.hid (HF.out _ rfl).2⟩
                case measure => simp [intOf]; omega
              · clear HO
                go_wp2_with fail
                go_roundw
                case rel => exact ⟨k + 1, t', by omega, by go_num, Lib.hid ⟨P20, HS.out⟩, HT'⟩
                case measure => simp [intOf]; omega
          · replace S14 := S14.out
            have hpm2 := hpm
            clear hpm
            -- the list, and what is written over it
            replace S14 := Lib.hid S14
            have htl := t'.len_add OKT.out
            obtain ⟨l', hl'⟩ : ∃ l', t'.l = l' := ⟨_, rfl⟩
            obtain ⟨q, hq⟩ : ∃ q, l'.length = q := ⟨_, rfl⟩
            obtain ⟨g', hg'⟩ : ∃ g', t'.gone = g' := ⟨_, rfl⟩
            rw [hl', hq, hg', hn'.out] at htl
            have hqb : q ≤ 1000 := by have := hn60.out; omega
            have hdr : t'.F.drop g' = l' := by rw [← hl', Tb.l, hg']
            replace hl' := Lib.hid hl'
            replace hq := Lib.hid hq
            replace hg' := Lib.hid hg'
            replace hdr := Lib.hid hdr
            go_wp2_with fail
            refine (skl_l S14.out l' q hl'.out hq.out).mono ?_
            rintro e w20 ⟨Ag, cg, rfl, og, S20⟩
            obtain ⟨P20, hP20⟩ : ∃ P20 : Nat → Prop, (fun x => P9 x ∨ (w14.heap.size ≤ x ∧ x < w20.heap.size)) = P20 := ⟨_, rfl⟩
            rw [hP20] at S20
            have hgP : Hid (∀ g, Ag = some ⟨g, 0, none⟩ → P20 g ∧ w.heap.size ≤ g) := Lib.hid (fun g hA => by
              subst hA
              have := og.lt g rfl
              have hs := S14.out.below.size
              rw [← hP20]
              exact ⟨.inr ⟨by omega, this.2⟩, by omega⟩)
            replace hP20 := Lib.hid hP20
            obtain ⟨Aw, cw, Rw⟩ := S20.rt
            have k1 := wrote_cell Rw.cell 1 _ rfl
            have k2 := wrote_cell Rw.cell 2 _ rfl
            have hcw := Rw.cap
            rw [hn'.out] at k1 hcw
            rw [hg'.out] at k2
            have hsl := cutS_l (P := Try.prog) Try.underlying22 infoF Aw n' cw g' q (g' : Int) rfl (by omega) hcw.1
            obtain ⟨Xw, hXw⟩ : ∃ Xw, (if cw = g' then Aw else Aw.map (·.add (g' * 2))) = Xw := ⟨_, rfl⟩
            obtain ⟨cX, hcX⟩ : ∃ cX, cw - g' = cX := ⟨_, rfl⟩
            rw [hXw, hcX] at hsl
            have RX : Rd w20 Xw (fdv l') := by
              have h := Rw.rd.dropS (k := g') (len := n') (cap := cw) (s := 2) (by omega) hcw.1 (by rw [fdv_len, hn'.out])
              rw [hXw, ← fdv_drop, hdr.out] at h
              exact h
            have CS : Hid (∀ W, Below w20.heap.size w20 W → Calls Try.prog 21 #[.slice Ag q cg, .slice Xw q cX] W fun e w' => e = .returned (.bool true) ∧ Still W w') := Lib.hid (fun W hW => samef_n true l' l' q q hq.out hq.out Ag Xw cg cX W ((Rd.of_ownS og).below hW) (RX.below hW) (by omega) (by omega) (decide_eq_true rfl))
            have D20 := Lib.hid (Still.drew w20).below
            have kp : Hid (∀ W, Below w20.heap.size w20 W → W.cell? ⟨pb, 1, none⟩ = some (.slice Aw n' cw) ∧ W.cell? ⟨pb, 2, none⟩ = some (.int .i64 g')) := Lib.hid (fun W hW => ⟨by have := wrote_cell (Rw.below hW).cell 1 _ rfl; rw [hn'.out] at this; exact this, by have := wrote_cell (Rw.below hW).cell 2 _ rfl; rw [hg'.out] at this; exact this⟩)
            replace hXw := Lib.hid hXw
            replace hcX := Lib.hid hcX
            replace og := Lib.hid og
            replace S20 := Lib.hid S20
            clear RX Rw hcw S14
            go_wp2_with fail
            go_region_held3 (fun W => W.cell? ⟨pb, 1, none⟩ = some (.slice Aw n' cw) ∧ W.cell? ⟨pb, 2, none⟩ = some (.int .i64 g')) (first | assumption | go_keep) (first
              | (go_at_call 21; refine (CS.out _ D20.out).mono ?_; rintro e w21 ⟨rfl, S21⟩; have b21 := Lib.hid (D20.out.trans (S21.below.mono D20.out.size)); have kq := kp.out _ b21.out; clear S21))
            have S21 := Lib.hid (S20.out.bel b21.out)
            have o21 := Lib.hid (own_fr og.out (Fr.of_below b21.out NoS) (fun _ _ x => x))
            clear k1 k2 kq CS D20 kp og S20 b21 hsl
            go_wp2_with fail
            go_loopw [30] (fun i wq => ∃ j : Nat, j ≤ q ∧ i = .int .i64 j ∧ Hid (∃ xs, xs.length = q * 2 ∧ wq.ownsRow w14.heap.size 28 2 (.slice Ag q cg) q xs) ∧ Hid (SkSt w wq P20 pa pb t' t')) (fun i _ => q - (intOf i).toNat)
            case atStart => exact ⟨0, by omega, rfl, Lib.hid ⟨_, by rw [fdv_len, hq.out], o21.out⟩, S21⟩
            case round =>
              clear S21 o21
              obtain ⟨j, hj, rfl, HO, HS⟩ := hrel
              by_cases hjq : j < q
              · rename_i aa; clear aa
                obtain ⟨xs, hxs, o1⟩ := HO.out
                obtain ⟨g, hA⟩ : ∃ g, Ag = some ⟨g, 0, none⟩ := by
                  rcases ownS_cases o1 with ⟨_, h2, _⟩ | ⟨g, h1, _⟩
                  · omega
                  · exact ⟨g, h1⟩
                subst hA
                have z0 := o1.cellAt (j * 2) (by omega)
                rw [List.getElem?_eq_getElem (by omega)] at z0
                obtain ⟨u, hu⟩ : ∃ u, some (xs[j * 2]'(by omega)) = some u := ⟨_, rfl⟩
                rw [hu] at z0
                have z1 := o1.frozenAt (j * 2)
                have st := (o1.stored (j * 2) (.string ⟨#[103, 111, 110, 101]⟩)).1
                have HF : Hid (∀ W, W = wr.setCell ⟨g, j * 2, none⟩ (.string ⟨#[103, 111, 110, 101]⟩) → (∃ xs, xs.length = q * 2 ∧ W.ownsRow w14.heap.size 28 2 (.slice (some ⟨g, 0, none⟩) q cg) q xs) ∧ SkSt w W P20 pa pb t' t') := Lib.hid (by
                  rintro W rfl
                  exact ⟨⟨_, by rw [List.length_set]; exact hxs, st⟩, HS.out.over (hgP.out g rfl).1 (hgP.out g rfl).2 ((Fr.refl (fun k => k = g) wr).setCell (p := ⟨g, j * 2, none⟩) (fun _ => rfl) _)⟩)
                have hjI : (j : Int) < (q : Int) := by omega
                replace hu := Lib.hid hu
                replace hxs := Lib.hid hxs
                clear HO HS st o1
                go_wp2_with fail
                go_roundw
                case rel => exact ⟨j + 1, by omega, by go_num, Lib.hid (HF.out _ rfl).1, Lib.hid (HF.out _ rfl).2⟩
                case measure => simp [intOf]; omega
              · clear HO
                go_wp2_with fail
                go_roundw
                case rel => exact ⟨k + 1, t', by omega, by go_num, Lib.hid ⟨P20, HS.out⟩, HT'⟩
                case measure => simp [intOf]; omega
    · have hb := Lib.hid (by obtain ⟨P, S0⟩ := HS.out; exact S0.below : Below w.heap.size w wr)
      clear HS
      go_wp2_with fail
      refine (fixed_any _).mono ?_
      rintro e wf ⟨Af, rfl, Rf, bf⟩
      have B1 := hb.out.trans (bf.mono hb.out.size)
      replace Rf := Lib.hid Rf
      go_wp2_with fail
      refine (rfixed_any _).mono ?_
      rintro e wg ⟨Ar, rfl, Rr, br⟩
      have B2 := Lib.hid (B1.trans (br.mono B1.size))
      have C3 := Lib.hid (samef_n true fixed fixed 16 16 rfl rfl Af Ar 16 16 wg (Rf.out.below br) Rr (by omega) (by omega) (decide_eq_true rfl))
      clear bf br B1 Rf Rr hb
      go_wp2_with fail
      refine C3.out.mono ?_
      rintro e wh ⟨rfl, S3⟩
      have B3 := Lib.hid (B2.out.trans (S3.below.mono B2.out.size))
      clear C3 S3 B2
      go_wp2_with fail
      refine (awake_any _).mono ?_
      rintro e wi ⟨rfl, bi⟩
      go_wp2_with fail
      go_ret
      exact ⟨rfl, B3.out.trans (bi.mono B3.out.size)⟩

set_option maxRecDepth 100000 in
set_option maxHeartbeats 2000000 in
theorem tscript_any (M0 : Int) (hM64 : -9223372036854775808 ≤ M0 ∧ M0 ≤ 9223372036854775807) (l : List Fd) (gs : List Int) (A0 A1 : Option Addr) (cap0 cap1 N n1 : Nat) (w : World) (hN : l.length = N) (hr : Rd w A0 (fdv l)) (hNb : N ≤ 9223372036854775807) (hsz : ∀ x ∈ l, x.name.size ≤ reachBytes ∧ x.value.size ≤ reachBytes)
    (hg : gs.length = n1) (hrg : Rd w A1 (gs.map (Value.int .u64))) (hnb : n1 ≤ 9223372036854775807) (hgb : ∀ x ∈ gs, 0 ≤ x ∧ x ≤ 18446744073709551615) :
    Calls Try.prog 3 #[.int .i64 M0, .slice A0 N cap0, .slice A1 n1 cap1] w fun e w' => e = .returned (.bool true) ∧ Below w.heap.size w w' := by
  by_cases h1 : 60 < N
  · have d1 : decide ((60 : Int) < (N : Int)) = true := decide_eq_true (by omega)
    clear hN hr hg hrg
    go_enter Try.func3, Try.ntmps3
    go_wp2_with fail
    refine (awake_any _).mono ?_
    rintro e wf ⟨rfl, hbf⟩
    go_wp2_with fail
    go_ret
    exact ⟨rfl, hbf⟩
  · have d1 : decide ((60 : Int) < (N : Int)) = false := decide_eq_false (by omega)
    by_cases h2 : 60 < n1
    · have d2 : decide ((60 : Int) < (n1 : Int)) = true := decide_eq_true (by omega)
      clear hN hr hg hrg
      go_enter Try.func3, Try.ntmps3
      go_wp2_with fail
      refine (awake_any _).mono ?_
      rintro e wf ⟨rfl, hbf⟩
      go_wp2_with fail
      go_ret
      exact ⟨rfl, hbf⟩
    · have d2 : decide ((60 : Int) < (n1 : Int)) = false := decide_eq_false (by omega)
      by_cases h3 : M0 < 0 ∨ 512 < M0
      · have hcs : (decide (M0 < 0) = true) ∨ (decide (M0 < 0) = false ∧ decide (512 < M0) = true) := by
          rcases h3 with h | h
          · exact .inl (decide_eq_true h)
          · exact .inr ⟨decide_eq_false (by omega), decide_eq_true h⟩
        have TN := Lib.hid (tnew_no M0 w h3)
        clear hN hr hg hrg h3
        rcases hcs with d3 | ⟨d3, d4⟩
        all_goals
          go_enter Try.func3, Try.ntmps3
          go_wp2_with fail
          refine TN.out.mono ?_
          rintro e w1 ⟨rfl, rfl⟩
          go_wp2_with fail
          refine (tget_nil w).mono ?_
          rintro e w2 ⟨rfl, b2⟩
          have B2 := Lib.hid b2
          clear b2
          go_wp2_with fail
          have B3 := B2.out.alloc B2.out.size (.cells #[.string ⟨#[]⟩, .string ⟨#[]⟩] 28)
          obtain ⟨W3, hW3⟩ : ∃ W3, w2.alloc (.cells #[.string ⟨#[]⟩, .string ⟨#[]⟩] 28) = W3 := ⟨_, rfl⟩
          rw [hW3] at B3 ⊢
          replace B3 := Lib.hid B3
          replace hW3 := Lib.hid hW3
          refine (tins_nil W3 ⟨#[]⟩ ⟨#[]⟩).mono ?_
          rintro e w4 ⟨rfl, b4⟩
          have B4 := Lib.hid (B3.out.trans (b4.mono B3.out.size))
          clear b4
          go_wp2_with fail
          refine (tcount_nil w4).mono ?_
          rintro e w5 ⟨rfl, rfl⟩
          go_wp2_with fail
          refine (awake_any _).mono ?_
          rintro e w6 ⟨rfl, b6⟩
          have B6 := Lib.hid (B4.out.trans (b6.mono B4.out.size))
          clear b6
          go_wp2_with fail
          go_ret
          exact ⟨rfl, B6.out⟩
      · obtain ⟨M, rfl⟩ : ∃ M : Nat, M0 = (M : Int) := ⟨M0.toNat, by omega⟩
        exact tscript_in M (by omega) l gs A0 A1 cap0 cap1 N n1 w hN hr (by omega) hsz hg hrg (by omega) hgb
end Go.Proofs.Ytgcnhppafclnmaa
