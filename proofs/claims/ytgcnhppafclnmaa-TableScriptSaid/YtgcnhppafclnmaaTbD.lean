/- table: slices.Backward over fields: its contract, for every loop body. -/
import Derived.Test.YtgcnhppafclnmaaTbB
import Derived.RangeFuncNested
import Derived.RangeFuncBound
import Derived.RangeFuncCalls
import Derived.RangeFuncLeaves
import Derived.OwnWalkIn
import Derived.TacticsInMore
import Derived.LoopNIn
import Derived.LoopIn
namespace Go.Proofs.Ytgcnhppafclnmaa
open Go.RowKit Go.Shelf

attribute [local go_sem] Oper.semAt_some

/-- Block B is a row of cells. -/
def HasRow (W : World) (B : Nat) (t : TypeId) (cs : Array Value) : Prop := W.heap[B]? = some (.cells cs t (0, 0))
section
variable {W W' : World} {B B' : Nat} {t : TypeId} {cs : Array Value}
theorem HasRow.lt (h : HasRow W B t cs) : B < W.heap.size := heap_lt h
theorem HasRow.cell (h : HasRow W B t cs) (i : Nat) (v : Value) (hi : cs[i]? = some v) : W.cell? ⟨B, i, none⟩ = some v := wrote_cell h i v hi
theorem HasRow.frozen (h : HasRow W B t cs) (i : Nat) : W.frozen? ⟨B, i, none⟩ = false := frozen_of_row W B i _ _ h
theorem HasRow.new (W : World) (t : TypeId) (cs : Array Value) : HasRow (W.alloc (.cells cs t)) W.heap.size t cs := heap_alloc_new W _
theorem HasRow.fr {S : Nat → Prop} (h : HasRow W B t cs) (F : Fr S W W') (hS : ¬ S B) : HasRow W' B t cs := heap_fr h F hS
theorem HasRow.below (h : HasRow W B t cs) (b : Below W.heap.size W W') : HasRow W' B t cs := h.fr (Fr.of_below b NoS) (fun x => x)
theorem HasRow.alloc (h : HasRow W B t cs) (o : Obj) : HasRow (W.alloc o) B t cs := h.below ((Below.refl _ W).alloc (Nat.le_refl _) o)
theorem HasRow.set1 {v : Value} (h : HasRow W B t #[v]) (u : Value) : HasRow (W.setCell ⟨B, 0, none⟩ u) B t #[u] := heap_setCell_same W B 0 _ t u h
theorem HasRow.other (h : HasRow W B t cs) (hne : B ≠ B') (i : Nat) (u : Value) : HasRow (W.setCell ⟨B', i, none⟩ u) B t cs := h.fr ((Fr.refl (fun k => k = B') W).setCell (p := ⟨B', i, none⟩) (fun _ => rfl) u) hne
theorem HasRow.keep {row : Option Nat} (h : HasRow W B t cs) (hg : W.grownBy W' row) (hr : ∀ r, row = some r → ∃ o : Obj, W.heap[r]? = some o ∧ o.isCells = false) : HasRow W' B t cs :=
  (hg.block B h.lt (fun e => by obtain ⟨o, ho, hc⟩ := hr B e.symm; rw [show W.heap[B]? = _ from h] at ho; cases ho; cases hc)).trans h
end

/-- What a round keeps: what lay below n₀, and the iterator's own box. -/
def KeepK (n₀ Bs : Nat) (W W' : World) : Prop := Below n₀ W W' ∧ ∀ t cs, HasRow W Bs t cs → HasRow W' Bs t cs
theorem KeepK.refl (n₀ Bs : Nat) (W : World) : KeepK n₀ Bs W W := ⟨Below.refl _ _, fun _ _ h => h⟩
theorem keepK_t {n₀ Bs : Nat} {A B C : World} (h : KeepK n₀ Bs A B) (k : KeepK n₀ Bs B C) : KeepK n₀ Bs A C := ⟨h.1.trans k.1, fun t cs x => k.2 t cs (h.2 t cs x)⟩
theorem keepK_b {n₀ Bs : Nat} {w : World} (hn : n₀ ≤ w.heap.size) (W : World) (l : Nat) (o o' : Obj) (h1 : w.heap.size ≤ l) (h2 : W.heap[l]? = some o) (h3 : o.isCells = false) (h4 : o.isWalk = false) : KeepK n₀ Bs W (W.putObj l o') :=
  ⟨belowK_b hn W l o o' h1 h2 h3 h4, fun _ _ x => x.keep (grownBy_putObj' W l o') (fun r e => by cases e; exact ⟨o, h2, h3⟩)⟩

def fde : Fd := ⟨.empty, .empty⟩
theorem bk_take_succ (l : List Fd) : ∀ (n k j : Nat), k + (j + 1) = n → (bk l n).take (k + 1) = (bk l n).take k ++ [(j, l.getD j fde)]
  | 0, k, j, h => by omega
  | n + 1, 0, j, h => by
    have : j = n := by omega
    subst this; rfl
  | n + 1, k + 1, j, h => by
    rw [bk, List.take_succ_cons, List.take_succ_cons, bk_take_succ l n k j (by omega)]; rfl
theorem bk_take_len (l : List Fd) (n k : Nat) (h : k ≤ n) : ((bk l n).take k).length = k := by rw [List.length_take, bk_len]; omega

set_option maxRecDepth 100000 in
set_option maxHeartbeats 2000000 in
theorem back1_in (F : Fence) (n : Nat) (h8 : F.fn 28) (hro : F.round = none) (hn : 1 ≤ n) (r Bs n₀ b off len cap : Nat) (l : List Fd) (hreach : len ≤ 1000000) (hb : b < n₀) (J Jx : List (Nat × Fd) → World → Prop)
    (hY : ∀ pre x W, J pre W → pre.length < len → YieldAt F (n - 1) Try.prog r #[.int .i64 (x.1 : Int), .agg #[.string x.2.name, .string x.2.value]] W fun e W' =>
      (e = .returned (.bool true) ∧ J (pre ++ [x]) W' ∧ KeepK n₀ Bs W W') ∨ (e = .returned (.bool false) ∧ Jx (pre ++ [x]) W'))
    (W : World) (hBs : HasRow W Bs 22 #[.slice (some ⟨b, off, none⟩) len cap]) (hc : ∀ j, j < len → W.cell? ⟨b, off + j * 2, none⟩ = some (.string (l.getD j fde).name) ∧ W.cell? ⟨b, off + j * 2 + 1, none⟩ = some (.string (l.getD j fde).value)) (h0 : J [] W) :
    CallsIn F n Try.prog 28 #[.func (.yield r) #[] #[], .pointer (some ⟨Bs, 0, none⟩)] W fun e W' => (∃ v, e = .returned v) ∧
      ((∃ ys, ys = bk l len ∧ J ys W') ∨ (∃ pre, (∃ k, k ≤ len ∧ pre = (bk l len).take k) ∧ Jx pre W')) := by
  refine callsIn_of_wp Try.func28 rfl h8 ?_ hro
  simp only [Try.ntmps28, List.size_toArray, List.length_cons, List.length_nil, Nat.reduceAdd, Nat.reduceSub, Array.replicate_succ, Array.replicate_zero, List.push_toArray, List.append_toArray, List.nil_append, List.cons_append]
  have hBs0 := hBs.cell 0 _ rfl
  gi_wp2
  clear hBs0
  gi_loopw [3] (fun i wr => ∃ k j : Nat, k + j = len ∧ i = .int .i64 ((j : Int) - 1) ∧ J ((bk l len).take k) wr ∧ KeepK n₀ Bs W wr)
    (fun i _ => (intOf i + 1).toNat)
  case atStart => exact ⟨0, len, by omega, rfl, h0, KeepK.refl _ _ _⟩
  case round =>
    obtain ⟨k, j, hk, rfl, hJs, hnx⟩ := hrel
    have hcx : j ≤ len → 0 < j → wr.cell? ⟨b, off + (j - 1) * 2, none⟩ = some (.string (l.getD (j - 1) fde).name) ∧ wr.cell? ⟨b, off + (j - 1) * 2 + 1, none⟩ = some (.string (l.getD (j - 1) fde).value) := fun h1 h2 =>
      ⟨(hnx.1.cell (p := ⟨b, off + (j - 1) * 2, none⟩) hb).trans (hc (j - 1) (by omega)).1, (hnx.1.cell (p := ⟨b, off + (j - 1) * 2 + 1, none⟩) hb).trans (hc (j - 1) (by omega)).2⟩
    have hBs' : wr.cell? ⟨Bs, 0, none⟩ = some (.slice (some ⟨b, off, none⟩) len cap) := (hnx.2 _ _ hBs).cell 0 _ rfl
    rcases Nat.eq_zero_or_pos j with hj0 | hj0
    · subst hj0
      have hk' : k = len := by omega
      rw [hk', List.take_of_length_le (by rw [bk_len]; exact Nat.le_refl _)] at hJs
      clear hcx
      gi_wp2
      go_end0
      exact ⟨⟨_, rfl⟩, .inl ⟨_, rfl, hJs⟩⟩
    · obtain ⟨i, rfl⟩ : ∃ i, j = i + 1 := ⟨j - 1, by omega⟩
      have hi : ((i + 1 : Nat) : Int) - 1 = (i : Int) := by omega
      rw [hi]
      obtain ⟨fn, tmps, assign, body, hy, hR⟩ := hY _ (i, l.getD i fde) wr hJs (by rw [bk_take_len _ _ _ (by omega)]; omega)
      dsimp only at hy
      obtain ⟨c1, c2⟩ := hcx (by omega) hj0
      rw [show i + 1 - 1 = i from rfl] at c1 c2
      have hil : (i : Int) < (len : Int) := by omega
      have hsucc := bk_take_succ l len k i hk
      have hi6 : i ≤ 1000000 := by omega
      obtain ⟨fa, hfa⟩ : ∃ fa, (l.getD i fde).name = fa := ⟨_, rfl⟩
      obtain ⟨fb, hfb⟩ : ∃ fb, (l.getD i fde).value = fb := ⟨_, rfl⟩
      rw [hfa] at c1 hy
      rw [hfb] at c2 hy
      clear hi hcx
      have hkk := Lib.hid hk
      clear hk
      gi_wp2
      refine hR.mono ?_
      rintro e W3 (⟨rfl, hJ3, hk3⟩ | ⟨rfl, hJx3⟩)
      · gi_wp2
        go_roundw
        case rel => exact ⟨k + 1, i, by have := hkk.out; omega, rfl, by rw [hsucc]; exact hJ3, keepK_t hnx hk3⟩
        case measure => simp [intOf]
      · gi_wp2
        refine bodyPost_ret (results_none rfl _ _ _) rfl ?_
        exact ⟨⟨_, rfl⟩, .inr ⟨_, ⟨k + 1, by have := hkk.out; omega, hsucc.symm⟩, hJx3⟩⟩

set_option maxRecDepth 100000 in
set_option maxHeartbeats 1000000 in
theorem back0_in (F : Fence) (n : Nat) (h8 : F.fn 28) (hro : F.round = none) (r Bs cap : Nat) (A : Option Addr) (J : List (Nat × Fd) → World → Prop) (W : World) (hBs : W.cell? ⟨Bs, 0, none⟩ = some (.slice A 0 cap)) (h0 : J [] W) :
    CallsIn F n Try.prog 28 #[.func (.yield r) #[] #[], .pointer (some ⟨Bs, 0, none⟩)] W fun e W' => (∃ v, e = .returned v) ∧ J [] W' := by
  refine callsIn_of_wp Try.func28 rfl h8 ?_ hro
  simp only [Try.ntmps28, List.size_toArray, List.length_cons, List.length_nil, Nat.reduceAdd, Nat.reduceSub, Array.replicate_succ, Array.replicate_zero, List.push_toArray, List.append_toArray, List.nil_append, List.cons_append]
  gi_wp2
  gi_loopw [3] (fun i wr => i = .int .i64 (-1) ∧ J [] wr) (fun _ _ => 0)
  case atStart => exact ⟨rfl, h0⟩
  case round =>
    obtain ⟨rfl, hJs⟩ := hrel
    gi_wp2
    go_end0
    exact ⟨⟨_, rfl⟩, hJs⟩

set_option maxHeartbeats 1000000 in
theorem back_in (F : Fence) (n : Nat) (h5 : F.fn 27) (hro : F.round = none) (a : Option Addr) (len cap : Nat) (w : World) :
    CallsIn F n Try.prog 27 #[.slice a len cap] w fun e w' => e = .returned (.func (.func 28) #[] #[.pointer (some ⟨w.heap.size, 0, none⟩)]) ∧ w' = w.alloc (.cells #[.slice a len cap] 22) := by
  refine callsIn_of_wp Try.func27 rfl h5 ?_ hro
  simp only [Try.ntmps27, List.size_toArray, List.length_cons, List.length_nil, Nat.reduceAdd, Nat.reduceSub, Array.replicate_succ, Array.replicate_zero, List.push_toArray, List.append_toArray, List.nil_append, List.cons_append]
  gi_wp2
  go_ret
  exact ⟨rfl, rfl⟩

theorem back_stops (F : Fence) (n : Nat) (h8 : F.fn 28) (hro : F.round = none) (hn : 1 ≤ n) (Bs n₀ : Nat) (A : Option Addr) (cap : Nat) (l : List Fd) (hreach : l.length ≤ 1000000) (w : World) (hn₀ : n₀ ≤ w.heap.size)
    (hc : HasRow w Bs 22 #[.slice A l.length cap]) (hr : Rd w A (fdv l)) (hA : ∀ a, A = some a → a.block < n₀) :
    SeqStopsK F n Try.prog 28 #[.pointer (some ⟨Bs, 0, none⟩)] (fun x : Nat × Fd => #[Value.int .i64 (x.1 : Int), .agg #[.string x.2.name, .string x.2.value]]) (KeepK n₀ Bs) (fun ys => ys = bk l l.length)
      (fun pre => ∃ k, k ≤ l.length ∧ pre = (bk l l.length).take k) l.length w := fun r J Jx W hW _ _ hY h0 => by
  have hc' := hc.below hW
  rcases l with _ | ⟨x, l⟩
  · exact (back0_in F n h8 hro r Bs cap A J W (hc'.cell 0 _ rfl) h0).mono fun e W' ⟨he, hj⟩ => ⟨he, .inl ⟨_, rfl, hj⟩⟩
  · have hr' := hr.below hW
    obtain ⟨b, off, rfl, _⟩ := load_fd hr' (k := 0) (by simp)
    refine back1_in F n h8 hro hn r Bs n₀ b off _ cap (x :: l) hreach (hA _ rfl) J Jx hY W hc' (fun j hj => ?_) h0
    obtain ⟨b', off', e, c1, c2⟩ := load_fd hr' hj
    injection e with e
    injection e with e1 e2
    subst e1 e2
    rw [List.getD_eq_getElem?_getD, List.getElem?_eq_getElem hj]
    exact ⟨c1, c2⟩
end Go.Proofs.Ytgcnhppafclnmaa
