/- The document's own table: what it holds; Size, Used, Get, Fixed. -/
import Derived.Test.YtgcnhppafclnmaaTbG
namespace Go.Proofs.Ytgcnhppafclnmaa
open Go.RowKit

/-- Block p is the document's table: all that came lies at A, g of it are gone. -/
structure Rt (w : World) (p : Nat) (A : Option Addr) (c M : Nat) (F : List Fd) (g : Nat) : Prop where
  cell : w.heap[p]? = some (.cells #[.int .i64 M, .slice A F.length c, .int .i64 g] 36 (0, 0))
  row : w.ownsRow 0 28 2 (.slice A F.length c) F.length (fdv F)
  le : g ≤ F.length
  sum : tsum (F.drop g) ≤ 1000000
  small : F.length ≤ 1000000
  most : M ≤ 1000000
section
variable {w w' : World} {p : Nat} {A : Option Addr} {c M g : Nat} {F : List Fd}
theorem Rt.rd (h : Rt w p A c M F g) : Rd w A (fdv F) := Rd.of_ownS h.row
theorem Rt.lt (h : Rt w p A c M F g) : p < w.heap.size := heap_lt h.cell
theorem Rt.at (h : Rt w p A c M F g) : A = none ∨ ∃ q, A = some ⟨q, 0, none⟩ ∧ p ≠ q ∧ q < w.heap.size := by
  rcases ownS_cases h.row with ⟨h1, _⟩ | ⟨q, h1, _, h3, _⟩
  · exact .inl h1
  · subst h1
    exact .inr ⟨q, rfl, own_typed h.row h.cell rfl, h3⟩
theorem Rt.ne (h : Rt w p A c M F g) : ∀ a, A = some a → a.block ≠ p := by
  intro a ha
  rcases h.at with h1 | ⟨q, h1, h2, _⟩
  · rw [h1] at ha; cases ha
  · rw [h1] at ha; injection ha with ha; subst ha; exact fun e => h2 e.symm
theorem Rt.on_lt (h : Rt w p A c M F g) : ∀ k, OnB p A k → k < w.heap.size := by
  rintro k (rfl | ⟨a, ha, rfl⟩)
  · exact h.lt
  · rcases h.at with h1 | ⟨q, h1, _, h3⟩
    · rw [h1] at ha; cases ha
    · rw [h1] at ha; injection ha with ha; subst ha; exact h3
theorem Rt.fr {T : Nat → Prop} (h : Rt w p A c M F g) (fr : Fr T w w') (hp : ¬ T p) (hA : ∀ a, A = some a → ¬ T a.block) : Rt w' p A c M F g :=
  ⟨heap_fr h.cell fr hp, own_fr h.row fr (fun k hk => by
    cases A with
    | none => cases hk
    | some a => injection hk with hk; subst hk; exact hA a rfl), h.le, h.sum, h.small, h.most⟩
theorem Rt.drewN (h : Rt w p A c M F g) (k : Nat) : Rt (w.drewN k) p A c M F g := h.fr ((Fr.refl NoS w).drewN k) (fun x => x) (fun _ _ x => x)
theorem Rt.below (h : Rt w p A c M F g) (b : Below w.heap.size w w') : Rt w' p A c M F g := h.fr (Fr.of_below b NoS) (fun x => x) (fun _ _ x => x)
theorem Rt.alloc (h : Rt w p A c M F g) (o : Obj) : Rt (w.alloc o) p A c M F g := h.fr ((Fr.refl NoS w).alloc o) (fun x => x) (fun _ _ x => x)
theorem Rt.cap (h : Rt w p A c M F g) : F.length ≤ c ∧ c ≤ maxLen := by
  rcases ownS_cases h.row with ⟨_, h1, h2, _⟩ | ⟨q, _, _, _, h3, h4⟩
  · rw [h1, h2]; exact ⟨Nat.le_refl _, Nat.zero_le _⟩
  · exact ⟨h3, h4⟩
theorem Rt.nilcap (h : Rt w p A c M F g) : A = none → c = 0 := by
  intro e
  rcases ownS_cases h.row with ⟨_, _, h2, _⟩ | ⟨q, h1, _⟩
  · exact h2
  · rw [e] at h1; cases h1
end
def IsRtS (w : World) (p : Nat) (S : Nat → Prop) (t : Tb) : Prop := ∃ A c, Rt w p A c t.most t.F t.gone ∧ t.Ok ∧ S = OnB p A
theorem rtOk : ObjOk IsRtS := by
  constructor
  · rintro w w' p S T t ⟨A, c, h, ho, rfl⟩ F hT
    exact ⟨A, c, h.fr F (hT p (.inl rfl)) (fun a ha => hT _ (.inr ⟨a, ha, rfl⟩)), ho, rfl⟩
  · rintro w p S t ⟨A, c, h, _, rfl⟩
    exact h.on_lt

theorem rsize_any (a b : ByteArray) (n : Nat) (w : World) (hn : a.size + b.size + 32 = n) (hb : n ≤ 1000000) : Calls Try.prog 16 #[.agg #[.string a, .string b]] w fun e w' => e = .returned (.int .i64 n) ∧ Below w.heap.size w w' := by
  obtain ⟨x, hx⟩ : ∃ x, a.size = x := ⟨_, rfl⟩
  obtain ⟨y, hy⟩ : ∃ y, b.size = y := ⟨_, rfl⟩
  have h1 : (x : Int) + (y : Int) + 32 = (n : Int) := by omega
  go_enter Try.func16, Try.ntmps16
  go_wp2
  go_ret
  exact ⟨ret_int (by omega), (Below.refl _ w).alloc (Nat.le_refl _) _⟩

section
variable {w w' : World} {p : Nat} {A : Option Addr} {c M g : Nat} {F : List Fd}
theorem tsum_take_succ (l : List Fd) (j : Nat) (f : Fd) (h : l[j]? = some f) : tsum (l.take (j + 1)) = tsum (l.take j) + f.size := by
  obtain ⟨hj, e⟩ := List.getElem?_eq_some_iff.1 h
  rw [List.take_succ_eq_append_getElem hj, tsum_snoc, e]
theorem tsum_take_all (l : List Fd) (j : Nat) : tsum (l.take j) ≤ tsum l := by
  have := congrArg tsum (List.take_append_drop j l)
  rw [tsum_append] at this; omega

set_option maxRecDepth 100000 in
set_option maxHeartbeats 2000000 in
theorem rused_any (h : Rt w p A c M F g) (u : Nat) (hu : tsum (F.drop g) = u) : Calls Try.prog 14 #[.pointer (some ⟨p, 0, none⟩)] w fun e w' => e = .returned (.int .i64 u) ∧ Below w.heap.size w w' := by
  have c2 := wrote_cell h.cell 2 _ rfl
  have hle := h.le
  have hsm := h.small
  have hub := h.sum
  rw [hu] at hub
  obtain ⟨N, hN⟩ : ∃ N, F.length = N := ⟨_, rfl⟩
  rw [hN] at hle hsm
  have h1 : Hid (∀ W, Below w.heap.size w W → W.cell? ⟨p, 1, none⟩ = some (.slice A N c)) := Lib.hid (fun W hW => by have := wrote_cell (h.below hW).cell 1 _ rfl; rw [hN] at this; exact this)
  have HR : Hid (∀ W, Below w.heap.size w W → Rd W A (fdv F)) := Lib.hid (fun W hW => (h.below hW).rd)
  replace hN := Lib.hid hN
  replace hu := Lib.hid hu
  clear h
  go_enter Try.func14, Try.ntmps14
  go_wp2_with fail
  clear c2
  go_loopw [3, 4] (fun s i wr => ∃ j k v : Nat, g + j = k ∧ k ≤ N ∧ i = .int .i64 k ∧ s = .int .i64 v ∧ v ≤ u ∧ Hid (v = tsum ((F.drop g).take j)) ∧ Hid (Below w.heap.size w wr)) (fun _ i _ => N - (intOf i).toNat)
  case atStart => exact ⟨0, g, 0, by omega, hle, rfl, rfl, by omega, Lib.hid rfl, Lib.hid (Below.refl _ _)⟩
  case round =>
    obtain ⟨j, k, v, hjk, hk, rfl, rfl, hv, HV, hB⟩ := hrel
    have x1 := h1.out wr hB.out
    by_cases hkN : k < N
    · rename_i aa; clear aa
      have hkl : k < F.length := by rw [hN.out]; exact hkN
      obtain ⟨b, off, rfl, y0, y1⟩ := load_fd (HR.out wr hB.out) hkl
      have hgj : (F.drop g)[j]? = some F[k] := by rw [List.getElem?_drop, hjk, List.getElem?_eq_getElem hkl]
      have hst := tsum_take_succ _ _ _ hgj
      obtain ⟨f, hf⟩ : ∃ f, F[k] = f := ⟨_, rfl⟩
      rw [hf] at y0 y1 hst
      obtain ⟨fa, fb⟩ := f
      obtain ⟨n, hn⟩ : ∃ n, fa.size + fb.size + 32 = n := ⟨_, rfl⟩
      have hst2 : tsum ((F.drop g).take (j + 1)) = v + n := by rw [hst, ← HV.out, ← hn]; rfl
      have hle2 := tsum_take_all (F.drop g) (j + 1)
      rw [hst2, hu.out] at hle2
      obtain ⟨v2, hv2⟩ : ∃ v2, v + n = v2 := ⟨_, rfl⟩
      have hvI : (v : Int) + (n : Int) = (v2 : Int) := by omega
      have hv2u : v2 ≤ u := by omega
      have hnb : n ≤ 1000000 := by omega
      have hst3 : Hid (v2 = tsum ((F.drop g).take (j + 1))) := Lib.hid (by omega)
      have HN := Lib.hid hn
      clear hn hst hst2 hle2 hgj hf HV hv2
      go_wp2_with fail
      refine (rsize_any fa fb n _ HN.out hnb).mono ?_
      rintro e w3 ⟨rfl, b3⟩
      have hB3 := Lib.hid (hB.out.trans (b3.mono hB.out.size))
      clear b3 x1 y0 y1
      go_wp2_with fail
      go_roundw
      case rel => exact ⟨j + 1, k + 1, v2, by omega, by omega, by go_num, rfl, hv2u, hst3, hB3⟩
      case measure => simp [intOf]; omega
    · have hkN' : k = N := by omega
      go_wp2_with fail
      go_ret
      refine ⟨ret_int ?_, hB.out⟩
      have e1 := HV.out
      rw [List.take_of_length_le (by rw [List.length_drop, hN.out]; omega), hu.out] at e1
      omega

set_option maxRecDepth 100000 in
set_option maxHeartbeats 1000000 in
theorem rtget_any (h : Rt w p A c M F g) (n : Nat) (hn : n < 18446744073709551616) (t : Tb) (hF : t.F = F) (hg : t.gone = g) (x y : ByteArray) (b : Bool) (hf : (t.get n).getD fd0 = ⟨x, y⟩) (hb : (t.get n).isSome = b) :
    Calls Try.prog 19 #[.pointer (some ⟨p, 0, none⟩), .int .u64 n] w fun e w' => e = .returned (.tuple #[.agg #[.string x, .string y], .bool b]) ∧ Below w.heap.size w w' := by
  have c1 := fun o => wrote_cell (h.alloc o).cell 1 _ rfl
  have c2 := fun o => wrote_cell (h.alloc o).cell 2 _ rfl
  have hle := h.le
  have hsm := h.small
  have HR := Lib.hid h.rd
  obtain ⟨N, hN⟩ : ∃ N, F.length = N := ⟨_, rfl⟩
  rw [hN] at c1 hle hsm
  unfold Tb.get at hf hb
  rw [hF, hg] at hf hb
  replace hF := Lib.hid hF
  replace hg := Lib.hid hg
  clear h
  have wN : IntKind.u64.wrap (N : Int) = (N : Int) := by rw [IntKind.wrap_u64]; omega
  have wg : IntKind.u64.wrap (g : Int) = (g : Int) := by rw [IntKind.wrap_u64]; omega
  have hz : fd0 = (⟨⟨#[]⟩, ⟨#[]⟩⟩ : Fd) := rfl
  by_cases h1 : N ≤ n
  · have e : (if g ≤ n then F[n]? else none) = none := by
      split
      · exact List.getElem?_eq_none (by omega)
      · rfl
    rw [e] at hf hb
    simp only [Option.getD_none, Option.isSome_none, fd0] at hf hb
    injection hf with hx hy
    subst hx hy hb
    have d1 : decide ((N : Int) ≤ (n : Int)) = true := decide_eq_true (by omega)
    have d1' : decide (N ≤ n) = true := decide_eq_true h1
    clear e hN h1
    go_enter Try.func19, Try.ntmps19
    go_wp2_with fail
    refine bodyPost_ret (v := (Value.tuple #[.agg #[.string ⟨#[]⟩, .string ⟨#[]⟩], .bool false])) (by rw [results_cell_tmp rfl]; go_simp) rfl ?_
    exact ⟨rfl, (Below.refl _ w).alloc (Nat.le_refl _) _⟩
  · have d1 : decide ((N : Int) ≤ (n : Int)) = false := decide_eq_false (by omega)
    have d1' : decide (N ≤ n) = false := decide_eq_false h1
    by_cases h2 : n < g
    · rw [if_neg (by omega)] at hf hb
      simp only [Option.getD_none, Option.isSome_none, fd0] at hf hb
      injection hf with hx hy
      subst hx hy hb
      have d2 : decide ((n : Int) < (g : Int)) = true := decide_eq_true (by omega)
      have d2' : decide (n < g) = true := decide_eq_true h2
      clear hN h1 h2
      go_enter Try.func19, Try.ntmps19
      go_wp2_with fail
      refine bodyPost_ret (v := (Value.tuple #[.agg #[.string ⟨#[]⟩, .string ⟨#[]⟩], .bool false])) (by rw [results_cell_tmp rfl]; go_simp) rfl ?_
      exact ⟨rfl, (Below.refl _ w).alloc (Nat.le_refl _) _⟩
    · rw [if_pos (by omega)] at hf hb
      have hnl : n < F.length := by omega
      rw [List.getElem?_eq_getElem hnl] at hf hb
      simp only [Option.getD_some, Option.isSome_some] at hf hb
      subst hb
      obtain ⟨b, off, rfl, x0, x1⟩ := load_fd HR.out hnl
      rw [hf] at x0 x1
      simp only at x0 x1
      have y0 := fun o => ((Below.refl _ w).alloc (Nat.le_refl _) o).cell (World.block_lt_of_cell? w _ x0) |>.trans x0
      have y1 := fun o => ((Below.refl _ w).alloc (Nat.le_refl _) o).cell (World.block_lt_of_cell? w _ x1) |>.trans x1
      have d2 : decide ((n : Int) < (g : Int)) = false := decide_eq_false (by omega)
      have d2' : decide (n < g) = false := decide_eq_false h2
      have hnI : (n : Int) < (N : Int) := by omega
      replace hf := Lib.hid hf
      clear hN h1 h2 x0 x1
      go_enter Try.func19, Try.ntmps19
      go_wp2_with fail
      refine bodyPost_ret (v := (Value.tuple #[.agg #[.string x, .string y], .bool true])) (by rw [results_cell_tmp rfl]; go_simp) rfl ?_
      exact ⟨rfl, (Below.refl _ w).alloc (Nat.le_refl _) _⟩
end
set_option maxRecDepth 100000 in
set_option maxHeartbeats 2000000 in
theorem rfixed_any (w : World) : Calls Try.prog 23 #[] w fun e w' => ∃ A, e = .returned (.slice A 16 16) ∧ Rd w' A (fdv fixed) ∧ Below w.heap.size w w' := by
  go_enter Try.func23, Try.ntmps23
  go_wp2
  go_ret
  exact ⟨_, rfl, Rd.fresh_mark w (fdv fixed) _ _, (Below.refl _ w).alloc (Nat.le_refl _) _⟩
end Go.Proofs.Ytgcnhppafclnmaa
