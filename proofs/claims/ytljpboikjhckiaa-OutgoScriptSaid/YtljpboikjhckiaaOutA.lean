/- outgo: what an Out holds: its bytes, and each one's state (the end's behind them). run, find, count, Sent, Left: what they return. -/
import Derived.Test.YtljpboikjhckiaaIdxB
import Derived.Test.YtljpboikjhckiaaCut
import Derived.Test.YtljpboikjhckiaaInfo
namespace Go.Proofs.Ytljpboikjhckiaa
open Go.RowKit

theorem wrote_cell {w : World} {p : Nat} {cs : Array Value} {t : TypeId} (h : w.heap[p]? = some (.cells cs t (0, 0))) (i : Nat) (v : Value) (hi : cs[i]? = some v) : w.cell? ⟨p, i, none⟩ = some v := by
  rw [cell_of_row w p i cs t (0, 0) h]; exact hi

/-- Block p is an Out of n bytes D (at AD), their states, and the end's, S (block g). -/
structure IsOut (w : World) (p g n : Nat) (AD : Option Addr) (cD : Nat) (D S : List UInt8) : Prop where
  cell : w.heap[p]? = some (.cells #[.slice AD n cD, .slice (some ⟨g, 0, none⟩) (n + 1) (n + 1)] 50 (0, 0))
  row : w.ownsRow 0 5 1 (.slice (some ⟨g, 0, none⟩) (n + 1) (n + 1)) (n + 1) (bv S)
  rd : Rd w AD (bv D)
  lD : D.length = n
  cap : n ≤ cD ∧ cD ≤ 9223372036854775807
  ne : ∀ a, AD = some a → a.block ≠ g
  small : n ≤ 1000000
  nl : AD = none → cD = 0

section
variable {w w' : World} {p g n : Nat} {AD : Option Addr} {cD : Nat} {D S : List UInt8}
theorem IsOut.lS (h : IsOut w p g n AD cD D S) : S.length = n + 1 := by have := h.row.1; simpa [bv] using this
theorem IsOut.rdS (h : IsOut w p g n AD cD D S) : Rd w (some ⟨g, 0, none⟩) (bv S) := Rd.of_own h.row
theorem IsOut.lt (h : IsOut w p g n AD cD D S) : p < w.heap.size ∧ g < w.heap.size := ⟨heap_lt h.cell, (h.row.lt g rfl).2⟩
theorem IsOut.pg (h : IsOut w p g n AD cD D S) : p ≠ g := by
  rcases h.row.2 with ⟨h1, _⟩ | ⟨g', cap, cur, h1, _, hg, _⟩
  · cases h1
  · injection h1 with h1
    injection h1 with h1
    injection h1 with h1
    subst h1
    intro e
    subst e
    have := h.cell
    rw [hg] at this
    injection this with this
    injection this with _ h2
    exact absurd h2 (by decide)
theorem IsOut.fr {T : Nat → Prop} (h : IsOut w p g n AD cD D S) (f : Fr T w w') (hp : ¬ T p) (hg : ¬ T g) (hA : ∀ a, AD = some a → ¬ T a.block) : IsOut w' p g n AD cD D S :=
  ⟨heap_fr h.cell f hp, own_fr h.row f (fun k hk => by injection hk with hk; subst hk; exact hg), h.rd.fr f (fun _ a ha => hA a ha), h.lD, h.cap, h.ne, h.small, h.nl⟩
theorem IsOut.drewN (h : IsOut w p g n AD cD D S) (k : Nat) : IsOut (w.drewN k) p g n AD cD D S := h.fr ((Fr.refl NoS w).drewN k) (fun x => x) (fun x => x) (fun _ _ x => x)

/-- How many of a kind from one place on, ahead of n. -/
def runOf : List UInt8 → UInt8 → Nat → Nat
  | y :: l, x, n + 1 => if y = x then runOf l x n + 1 else 0
  | _, _, _ => 0
theorem runOf_le (l : List UInt8) (x : UInt8) (n : Nat) : runOf l x n ≤ n := by
  induction l generalizing n with
  | nil => cases n <;> simp [runOf]
  | cons y l ih => cases n with
    | zero => simp [runOf]
    | succ n => simp only [runOf]; split
                · have := ih n; omega
                · omega
theorem runOf_is (l : List UInt8) (x : UInt8) (n : Nat) : ∀ j, j < runOf l x n → l[j]? = some x := by
  induction l generalizing n with
  | nil => intro j hj; cases n <;> simp [runOf] at hj
  | cons y l ih =>
    intro j hj
    cases n with
    | zero => simp [runOf] at hj
    | succ n =>
      simp only [runOf] at hj
      split at hj
      · rename_i h
        cases j with
        | zero => simp [h]
        | succ j => simpa using ih n j (by omega)
      · omega
theorem runOf_stop (l : List UInt8) (x : UInt8) (n : Nat) (h : runOf l x n < n) : l[runOf l x n]? ≠ some x := by
  induction l generalizing n with
  | nil => simp
  | cons y l ih =>
    cases n with
    | zero => omega
    | succ n =>
      simp only [runOf] at h ⊢
      split
      · rename_i h2
        rw [if_pos h2] at h
        simpa using ih n (by omega)
      · rename_i h2; simpa using h2
/-- What the number of a run is. -/
theorem runOf_of (l : List UInt8) (x : UInt8) (n k : Nat) (h1 : ∀ j, j < k → l[j]? = some x) (hk : k ≤ n) (h2 : k < n → l[k]? ≠ some x) : runOf l x n = k := by
  rcases Nat.lt_trichotomy (runOf l x n) k with h | h | h
  · exact absurd (h1 _ h) (runOf_stop l x n (by omega))
  · exact h
  · have := runOf_le l x n
    exact absurd (runOf_is l x n k h) (h2 (by omega))

set_option maxHeartbeats 2000000 in
theorem run_any (h : IsOut w p g n AD cD D S) (from_ : Nat) (x : UInt8) (hf : from_ ≤ n) :
    Calls Try.prog 33 #[.pointer (some ⟨p, 0, none⟩), .int .i64 from_, .int .u8 x.toNat] w fun e w' => e = .returned (.int .i64 (runOf (S.drop from_) x (n - from_))) ∧ w = w' := by
  have c0 := wrote_cell h.cell 0 _ rfl
  have c1 := wrote_cell h.cell 1 _ rfl
  have hl := h.lS
  have hsm := h.small
  have hr := h.rdS
  obtain ⟨R, hR⟩ : ∃ R, runOf (S.drop from_) x (n - from_) = R := ⟨_, rfl⟩
  have hR' := Lib.hid hR
  rw [hR]
  replace hl := Lib.hid hl
  clear hR h
  go_enter Try.func33, Try.ntmps33
  go_wp2_with fail
  go_loop [7] (fun i => ∃ k : Nat, k ≤ n - from_ ∧ i = .int .i64 k ∧ Hid (∀ j, j < k → (S.drop from_)[j]? = some x)) (fun i => n - (intOf i).toNat)
  case atStart => exact ⟨0, by omega, rfl, Lib.hid (fun j hj => by omega)⟩
  case round =>
    obtain ⟨k, hk, rfl, HT⟩ := hrel
    by_cases hkn : from_ + k < n
    · obtain ⟨b1, o1, e1, g1⟩ := hr.at_ (k := from_ + k) (by have := hl.out; simp; omega)
      injection e1 with e1
      injection e1 with e1 e2
      subst e1 e2
      simp only [bv, List.getElem_map, Nat.zero_add] at g1
      obtain ⟨v, hv⟩ : ∃ v, S[from_ + k]'(by have := hl.out; omega) = v := ⟨_, rfl⟩
      have hv' : Hid ((S.drop from_)[k]? = some v) := Lib.hid (by rw [List.getElem?_drop, List.getElem?_eq_getElem (by have := hl.out; omega), hv])
      rw [hv] at g1
      clear hv
      by_cases hvx : v = x
      · subst hvx
        have HT2 : Hid (∀ j, j < k + 1 → (S.drop from_)[j]? = some v) := Lib.hid (fun j hj => by
            rcases Nat.lt_or_ge j k with h | h
            · exact HT.out j h
            · have : j = k := by omega
              subst this; exact hv'.out)
        go_wp2_with fail
        go_round
        case rel => exact ⟨k + 1, by omega, by go_num, HT2⟩
        case measure => simp [intOf]; omega
      · have hne2 : ((v.toNat : Int) == (x.toNat : Int)) = false := by
          rw [beq_eq_false_iff_ne]; intro h; exact hvx (UInt8.toNat_inj.1 (Int.ofNat.inj h))
        replace hvx := Lib.hid hvx
        go_wp2_with fail
        go_ret
        exact ⟨ret_int (by rw [← hR'.out, runOf_of _ x _ k HT.out hk (fun _ => by rw [hv'.out]; intro e; injection e with e; exact hvx.out e)]), rfl⟩
    · go_wp2_with fail
      go_ret
      exact ⟨ret_int (by rw [← hR'.out, runOf_of _ x _ k HT.out hk (fun _ => by omega)]), rfl⟩
end
end Go.Proofs.Ytljpboikjhckiaa
