/- flight: Came's test of a packet: whether one of some ranges has its number. -/
import Derived.Test.YtifigmhecgbfoaaFlH
namespace Go.Proofs.Ytifigmhecgbfoaa
open Go.RowKit

structure Rg where
  lo : Nat
  hi : Nat
deriving DecidableEq
def Rg.cells (r : Rg) : List Value := [.int .u64 r.lo, .int .u64 r.hi]
def Rg.agg (r : Rg) : Value := .agg #[.int .u64 r.lo, .int .u64 r.hi]
def Rg.has (r : Rg) (n : Nat) : Bool := decide (r.lo ≤ n) && decide (n ≤ r.hi)
def rgv : List Rg → List Value
  | [] => []
  | x :: l => x.cells ++ rgv l
@[simp] theorem rgv_length (l : List Rg) : (rgv l).length = l.length * 2 := by
  induction l with
  | nil => rfl
  | cons x l ih => simp [rgv, Rg.cells, ih]; omega
theorem rgv_get : ∀ (l : List Rg) (k : Nat) (x : Rg), l[k]? = some x → ∀ j v, x.cells[j]? = some v → (rgv l)[k * 2 + j]? = some v
  | y :: l, 0, x, h, j, v, hv => by
    simp at h; subst h
    have hj : j < 2 := by have := (List.getElem?_eq_some_iff.1 hv).1; simpa [Rg.cells] using this
    rw [rgv, List.getElem?_append_left (by simp [Rg.cells]; omega)]
    simpa using hv
  | y :: l, k + 1, x, h, j, v, hv => by
    have := rgv_get l k x (by simpa using h) j v hv
    rw [rgv, List.getElem?_append_right (by simp [Rg.cells]; omega)]
    simpa [Rg.cells, show (k + 1) * 2 + j - 2 = k * 2 + j by omega] using this
theorem load_rg {W : World} {A : Option Addr} {l : List Rg} (hr : Rd W A (rgv l)) {k : Nat} (hk : k < l.length) :
    ∃ b off, A = some ⟨b, off, none⟩ ∧ W.cell? ⟨b, off + k * 2, none⟩ = some (.int .u64 (l[k]).lo) ∧ W.cell? ⟨b, off + k * 2 + 1, none⟩ = some (.int .u64 (l[k]).hi) := by
  obtain ⟨b, off, e, hc⟩ := hr (by simp; omega)
  subst e
  have h := rgv_get l k _ (List.getElem?_eq_getElem hk)
  refine ⟨b, off, rfl, ?_, ?_⟩
  · exact hc _ _ (h 0 _ rfl)
  · rw [Nat.add_assoc]; exact hc _ _ (h 1 _ rfl)

set_option maxHeartbeats 2000000 in
theorem idxr_any (l : List Rg) (A : Option Addr) (c : Nat) (g : Nat) (lb : Array Value) (q : Rg → Bool) (w : World) (eg : Ent g) (hr : Rd w A (rgv l)) (hl : l.length ≤ 1000000)
    (hq : ∀ W x, Below w.heap.size w W → x ∈ l → Calls Try.prog g (#[x.agg] ++ lb) W fun e w' => e = .returned (.bool (q x)) ∧ Below w.heap.size w w') :
    Calls Try.prog 32 #[.slice A l.length c, .func (.func g) #[] lb] w fun e w' => (∃ i : Int, e = .returned (.int .i64 i) ∧ decide (0 ≤ i) = l.any q) ∧ Below w.heap.size w w' := by
  have EG : ∀ (args : Array Value) (w : World), (callFunc g args).run Try.prog w = .ok (.enter g args) w := eg
  replace hq := Lib.hid hq
  go_enter Try.func32, Try.ntmps32
  go_wp2
  go_loopw [5, 8] (fun _ i wr => ∃ k : Nat, k ≤ l.length ∧ i = .int .i64 k ∧ Hid (∀ j, j < k → ∀ y, l[j]? = some y → q y = false) ∧ Hid (Below w.heap.size w wr)) (fun _ i _ => l.length - (intOf i).toNat)
  case atStart => exact ⟨0, by omega, rfl, Lib.hid (fun j hj => absurd hj (by omega)), Lib.hid (Below.refl _ w)⟩
  case round =>
    obtain ⟨k, hk, rfl, HT, HB⟩ := hrel
    by_cases hkl : k < l.length
    · obtain ⟨b, off, rfl, l0, l1⟩ := load_rg (hr.fr (Fr.of_below HB.out NoS) (fun _ _ _ x => x)) hkl
      have hcall := hq.out wr l[k] HB.out (List.getElem_mem hkl)
      obtain ⟨y, hy⟩ : ∃ y, l[k] = y := ⟨_, rfl⟩
      have hy' : Hid (l[k]? = some y) := Lib.hid (by rw [List.getElem?_eq_getElem hkl, hy])
      rw [hy] at l0 l1 hcall
      clear hy hr
      unfold Rg.agg at hcall
      cases hqy : q y
      · rw [hqy] at hcall
        go_wp2_with (go_at_fn g; refine hcall.mono ?_; rintro e w' ⟨rfl, hb'⟩)
        go_roundw
        case rel => exact ⟨k + 1, by omega, by go_num, Lib.hid (fun j hj z hz => by
            rcases Nat.lt_or_ge j k with h | h
            · exact HT.out j h z hz
            · have : j = k := by omega
              subst this
              rw [hy'.out] at hz; injection hz with hz; rw [← hz]; exact hqy), Lib.hid hb'⟩
        case measure => simp [intOf]; omega
      · rw [hqy] at hcall
        go_wp2_with (go_at_fn g; refine hcall.mono ?_; rintro e w' ⟨rfl, hb'⟩)
        go_ret
        refine ⟨⟨_, rfl, ?_⟩, hb'⟩
        rw [decide_eq_true (by omega), List.any_eq_true.2 ⟨y, List.mem_of_getElem? hy'.out, hqy⟩]
    · have hk' : k = l.length := by omega
      subst hk'
      go_wp2
      go_ret
      refine ⟨⟨_, rfl, ?_⟩, HB.out⟩
      rw [decide_eq_false (by omega)]
      symm
      rw [List.any_eq_false]
      intro x hx
      obtain ⟨j, hj, rfl⟩ := List.getElem_of_mem hx
      simpa using HT.out j hj _ (List.getElem?_eq_getElem hj)

theorem contr_any (l : List Rg) (A : Option Addr) (c : Nat) (g : Nat) (lb : Array Value) (q : Rg → Bool) (w : World) (eg : Ent g) (hr : Rd w A (rgv l)) (hl : l.length ≤ 1000000)
    (hq : ∀ W x, Below w.heap.size w W → x ∈ l → Calls Try.prog g (#[x.agg] ++ lb) W fun e w' => e = .returned (.bool (q x)) ∧ Below w.heap.size w w') :
    Calls Try.prog 27 #[.slice A l.length c, .func (.func g) #[] lb] w fun e w' => e = .returned (.bool (l.any q)) ∧ Below w.heap.size w w' := by
  have CI := Lib.hid (idxr_any l A c g lb q w eg hr hl hq)
  clear hq hr
  obtain ⟨V, hV⟩ : ∃ V, l.any q = V := ⟨_, rfl⟩
  rw [hV] at CI ⊢
  clear hV
  go_enter Try.func27, Try.ntmps27
  go_wp2_with fail
  refine CI.out.mono ?_
  rintro e w' ⟨⟨i, rfl, hi⟩, hb⟩
  subst hi
  clear CI
  replace hb := Lib.hid hb
  go_wp2_with fail
  go_ret
  exact ⟨rfl, hb.out⟩

set_option maxHeartbeats 2000000 in
theorem came11_any (r : Rg) (n X : Nat) (w : World) (hX : w.cell? ⟨X, 0, none⟩ = some (.int .u64 n)) :
    Calls Try.prog 28 (#[r.agg] ++ #[.pointer (some ⟨X, 0, none⟩)]) w fun e w' => e = .returned (.bool (r.has n)) ∧ Below w.heap.size w w' := by
  unfold Rg.agg
  show Calls Try.prog 28 #[.agg #[.int .u64 r.lo, .int .u64 r.hi], .pointer (some ⟨X, 0, none⟩)] w _
  have g1 : ∀ o, (w.alloc o).cell? ⟨X, 0, none⟩ = some (.int .u64 n) := fun o => Lib.cell?_alloc_some o hX
  obtain ⟨lo, hlo⟩ : ∃ x : Int, (r.lo : Int) = x := ⟨_, rfl⟩
  obtain ⟨hi, hhi⟩ : ∃ x : Int, (r.hi : Int) = x := ⟨_, rfl⟩
  obtain ⟨N, hN⟩ : ∃ x : Int, (n : Int) = x := ⟨_, rfl⟩
  have e : r.has n = (decide (lo ≤ N) && decide (N ≤ hi)) := by
    unfold Rg.has
    congr 1
    · by_cases h : r.lo ≤ n
      · rw [decide_eq_true h, decide_eq_true (by omega)]
      · rw [decide_eq_false h, decide_eq_false (by omega)]
    · by_cases h : n ≤ r.hi
      · rw [decide_eq_true h, decide_eq_true (by omega)]
      · rw [decide_eq_false h, decide_eq_false (by omega)]
  rw [e, hlo, hhi]
  rw [hN] at g1
  clear e hlo hhi hN hX
  by_cases h1 : lo ≤ N
  · have b1 : decide (lo ≤ N) = true := decide_eq_true h1
    rw [b1, Bool.true_and]
    go_enter Try.func28, Try.ntmps28
    go_wp2_with fail
    go_ret
    exact ⟨rfl, (Below.refl _ w).alloc (Nat.le_refl _) _⟩
  · have b1 : decide (lo ≤ N) = false := decide_eq_false h1
    rw [b1, Bool.false_and]
    go_enter Try.func28, Try.ntmps28
    go_wp2_with fail
    go_ret
    exact ⟨rfl, (Below.refl _ w).alloc (Nat.le_refl _) _⟩

theorem ent28 : Ent 28 := enters_of Try.func28 (by kernel_rfl) rfl
theorem ent26 : Ent 26 := enters_of Try.func26 (by kernel_rfl) rfl

def qcame (rs : List Rg) (x : Pk) : Bool := rs.any fun r => r.has x.num
set_option maxHeartbeats 2000000 in
theorem came1_any (x : Pk) (rs : List Rg) (R : Option Addr) (c B : Nat) (w : World) (hB : w.cell? ⟨B, 0, none⟩ = some (.slice R rs.length c)) (hr : Rd w R (rgv rs)) (hl : rs.length ≤ 1000000) :
    Calls Try.prog 26 (#[x.agg] ++ #[.pointer (some ⟨B, 0, none⟩)]) w fun e w' => e = .returned (.bool (qcame rs x)) ∧ Below w.heap.size w w' := by
  have hmf := mkfn
  unfold Pk.agg
  show Calls Try.prog 26 #[.agg #[.int .u64 x.num, .int .i64 x.tick, .bool x.cnt], .pointer (some ⟨B, 0, none⟩)] w _
  have g1 : ∀ o, (w.alloc o).cell? ⟨B, 0, none⟩ = some (.slice R rs.length c) := fun o => Lib.cell?_alloc_some o hB
  have CI : Hid (∀ m, Calls Try.prog 27 #[.slice R rs.length c, .func (.func 28) #[] #[.pointer (some ⟨w.heap.size, 0, none⟩)]] (w.alloc (.cells #[.int .u64 x.num, .int .i64 x.tick, .bool x.cnt] m)) fun e w' => e = .returned (.bool (qcame rs x)) ∧ Below w.heap.size w w') := Lib.hid (fun m => by
    have hX : (w.alloc (.cells #[.int .u64 x.num, .int .i64 x.tick, .bool x.cnt] m)).cell? ⟨w.heap.size, 0, none⟩ = some (.int .u64 x.num) := by rw [World.cell?_alloc_new]; rfl
    refine (contr_any rs R c _ _ (fun r => r.has x.num) _ ent28 (hr.alloc _) hl (fun W r hb _ => ?_)).mono ?_
    · refine (came11_any r x.num w.heap.size W ((hb.cell (by simp)).trans hX)).mono ?_
      rintro e w' ⟨rfl, hb2⟩
      exact ⟨rfl, hb.trans (hb2.mono hb.size)⟩
    · rintro e w' ⟨rfl, hb⟩
      exact ⟨rfl, ((Below.refl _ w).alloc (Nat.le_refl _) _).trans (hb.mono (by simp))⟩)
  clear hB hr
  go_enter Try.func26, Try.ntmps26
  go_wp2_with fail
  refine (CI.out _).mono ?_
  rintro e w' ⟨rfl, hb⟩
  replace hb := Lib.hid hb
  go_wp2_with fail
  go_ret
  exact ⟨rfl, hb.out⟩
end Go.Proofs.Ytifigmhecgbfoaa
