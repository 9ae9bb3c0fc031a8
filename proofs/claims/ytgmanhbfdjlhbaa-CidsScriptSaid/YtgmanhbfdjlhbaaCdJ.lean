/- cids: slices.BinarySearchFunc over rising names. -/
import Derived.Test.YtgmanhbfdjlhbaaCdI
namespace Go.Proofs.Ytgmanhbfdjlhbaa
open Go.RowKit

set_option maxHeartbeats 2000000 in
theorem add1_any (n : Nx) (q : Nat) (w : World) :
    Calls Try.prog 30 #[n.agg, .int .u64 (q : Int)] w fun e w' => e = .returned (.int .i64 (if n.x.seq < q then -1 else 1)) ∧ Below w.heap.size w w' := by
  obtain ⟨x0, x1, x2, x3, x4, x5, x6, x7, hc⟩ := nx12 n
  unfold Nx.agg
  rw [hc]
  show Calls Try.prog 30 #[.agg #[.int .u64 (n.x.seq : Int), .int .u8 x0, .int .u8 x1, .int .u8 x2, .int .u8 x3, .int .u8 x4, .int .u8 x5, .int .u8 x6, .int .u8 x7, .slice n.A n.x.tok.length n.c, .int .i64 n.x.path, .bool n.x.told], .int .u64 (q : Int)] w _
  clear hc
  by_cases h : n.x.seq < q
  · have d1 : decide ((n.x.seq : Int) < (q : Int)) = true := decide_eq_true (by omega)
    rw [if_pos h]
    obtain ⟨a, ha⟩ : ∃ a : Int, (n.x.seq : Int) = a := ⟨_, rfl⟩
    obtain ⟨b, hb⟩ : ∃ b : Int, (q : Int) = b := ⟨_, rfl⟩
    rw [ha, hb] at d1 ⊢
    clear ha hb h
    go_enter Try.func30, Try.ntmps30
    go_wp2_with fail
    go_ret
    exact ⟨rfl, (Below.refl _ w).alloc (Nat.le_refl _) _⟩
  · have d1 : decide ((n.x.seq : Int) < (q : Int)) = false := decide_eq_false (by omega)
    rw [if_neg h]
    obtain ⟨a, ha⟩ : ∃ a : Int, (n.x.seq : Int) = a := ⟨_, rfl⟩
    obtain ⟨b, hb⟩ : ∃ b : Int, (q : Int) = b := ⟨_, rfl⟩
    rw [ha, hb] at d1 ⊢
    clear ha hb h
    go_enter Try.func30, Try.ntmps30
    go_wp2_with fail
    go_ret
    exact ⟨rfl, (Below.refl _ w).alloc (Nat.le_refl _) _⟩
theorem ent_add1 : Ent 30 := enters_of Try.func30 (by kernel_rfl) rfl
/-- Where a new number goes. -/
def cpos (l : List Nx) (q : Nat) : Nat := (l.takeWhile fun x => decide (x.x.seq < q)).length
theorem cpos_eq {l : List Nx} {q k : Nat} (hk : k ≤ l.length) (h1 : ∀ j y, j < k → l[j]? = some y → y.x.seq < q) (h2 : ∀ y, l[k]? = some y → ¬ y.x.seq < q) : cpos l q = k := by
  unfold cpos
  induction l generalizing k with
  | nil => simp at hk; subst hk; rfl
  | cons x l ih =>
    cases k with
    | zero =>
      have := h2 x (by simp)
      rw [List.takeWhile_cons_of_neg (by simpa using this)]; rfl
    | succ k =>
      have hx := h1 0 x (by omega) (by simp)
      rw [List.takeWhile_cons_of_pos (by simpa using hx), List.length_cons, ih (k := k) (by simpa using hk) (fun j y hj hy => h1 (j + 1) y (by omega) (by simpa using hy)) (fun y hy => h2 y (by simpa using hy))]

set_option maxRecDepth 100000 in
set_option maxHeartbeats 4000000 in
theorem bsf_any (l : List Nx) (A : Option Addr) (n c q : Nat) (w : World) (hn : l.length = n) (hr : Rd w A (nxv l)) (hl : n ≤ 1000) (rise : ∀ (i j : Nat) (x y : Nx), i ≤ j → l[i]? = some x → l[j]? = some y → x.x.seq ≤ y.x.seq) :
    Calls Try.prog 29 #[.slice A n c, .int .u64 (q : Int), .func (.func 30) #[] #[]] w fun e w' => e = .returned (.tuple #[.int .i64 (cpos l q : Nat), .bool false]) ∧ Below w.heap.size w w' := by
  have EG : ∀ (args : Array Value) (w : World), (callFunc 30 args).run Try.prog w = .ok (.enter 30 args) w := ent_add1
  have HC : Hid (∀ W (x : Nx), Calls Try.prog 30 #[x.agg, .int .u64 (q : Int)] W fun e w' => e = .returned (.int .i64 (if x.x.seq < q then -1 else 1)) ∧ Below W.heap.size W w') := Lib.hid (fun W x => add1_any x q W)
  obtain ⟨Q, hQ⟩ : ∃ Q : Int, (q : Int) = Q := ⟨_, rfl⟩
  rw [hQ] at HC ⊢
  clear hQ
  obtain ⟨V, hV⟩ : ∃ V, cpos l q = V := ⟨_, rfl⟩
  rw [hV]
  replace hV := Lib.hid hV
  replace hr := Lib.hid hr
  replace hn := Lib.hid hn
  replace rise := Lib.hid rise
  go_enter Try.func29, Try.ntmps29
  go_wp2_with fail
  go_loopw [9, 10, 11] (fun i j _ wr => ∃ a b : Nat, a ≤ b ∧ b ≤ n ∧ i = .int .i64 a ∧ j = .int .i64 b ∧ Hid (∀ (k : Nat) (y : Nx), k < a → l[k]? = some y → y.x.seq < q) ∧ Hid (∀ (k : Nat) (y : Nx), b ≤ k → l[k]? = some y → ¬ y.x.seq < q) ∧ Hid (Below w.heap.size w wr)) (fun i j _ _ => (intOf j).toNat - (intOf i).toNat)
  case atStart => exact ⟨0, n, by omega, by omega, rfl, rfl, Lib.hid (fun k y hk => absurd hk (by omega)), Lib.hid (fun k y hk hy => by have := (List.getElem?_eq_some_iff.1 hy).1; have := hn.out; omega), Lib.hid (Below.refl _ w)⟩
  case round =>
    obtain ⟨a, b, hab, hbn, rfl, rfl, H1, H2, HB⟩ := hrel
    by_cases hlt : a < b
    · rename_i aa; clear aa
      obtain ⟨m, hm⟩ : ∃ m, (a + b) / 2 = m := ⟨_, rfl⟩
      have hm1 : a ≤ m := by omega
      have hm2 : m < b := by omega
      have hmI : ((a : Int) + (b : Int)) / 2 = (m : Int) := by omega
      have hml : m < l.length := by rw [hn.out]; omega
      have hmn : (m : Int) < (n : Int) := by omega
      have hm0 : (0 : Int) ≤ (m : Int) := by omega
      obtain ⟨bk, off, x0, x1, x2, x3, x4, x5, x6, x7, rfl, hcl, l0, l1, l2, l3, l4, l5, l6, l7, l8, l9, l10, l11⟩ := load_nx (hr.out.fr (Fr.of_below HB.out NoS) (fun _ _ _ x => x)) hml
      have hcall := HC.out wr l[m]
      unfold Nx.agg at hcall
      rw [hcl] at hcall
      clear hcl
      obtain ⟨y, hy⟩ : ∃ y, l[m] = y := ⟨_, rfl⟩
      have hy' : Hid (l[m]? = some y) := Lib.hid (by rw [List.getElem?_eq_getElem hml, hy])
      rw [hy] at l0 l9 l10 l11 hcall
      clear hy hm
      obtain ⟨q0, hq0⟩ : ∃ q : Int, (y.x.seq : Int) = q := ⟨_, rfl⟩
      obtain ⟨q1, hq1⟩ : ∃ q, y.A = q := ⟨_, rfl⟩
      obtain ⟨q2, hq2⟩ : ∃ q, y.x.tok.length = q := ⟨_, rfl⟩
      obtain ⟨q3, hq3⟩ : ∃ q, y.c = q := ⟨_, rfl⟩
      obtain ⟨q4, hq4⟩ : ∃ q, y.x.path = q := ⟨_, rfl⟩
      obtain ⟨q5, hq5⟩ : ∃ q, y.x.told = q := ⟨_, rfl⟩
      rw [hq0] at l0 hcall
      rw [hq1, hq2, hq3] at l9 hcall
      rw [hq4] at l10 hcall
      rw [hq5] at l11 hcall
      clear hq0 hq1 hq2 hq3 hq4 hq5 hml
      by_cases hs : y.x.seq < q
      · rw [if_pos hs] at hcall
        replace hs := Lib.hid hs
        go_wp2_with (go_at_fn 30; refine hcall.mono ?_; rintro e w' ⟨rfl, hb'⟩)
        go_roundw
        case rel => exact ⟨m + 1, b, by omega, hbn, by go_num, rfl, Lib.hid (fun k z hk hz => by
            have h3 := rise.out k m z y (by omega) hz hy'.out
            have := hs.out; omega), H2, Lib.hid (HB.out.trans (hb'.mono HB.out.size))⟩
        case measure => simp [intOf]; omega
      · rw [if_neg hs] at hcall
        replace hs := Lib.hid hs
        go_wp2_with (go_at_fn 30; refine hcall.mono ?_; rintro e w' ⟨rfl, hb'⟩)
        go_roundw
        case rel => exact ⟨a, m, by omega, by omega, rfl, by go_num, H1, Lib.hid (fun k z hk hz => by
            have h3 := rise.out m k y z (by omega) hy'.out hz
            have := hs.out; omega), Lib.hid (HB.out.trans (hb'.mono HB.out.size))⟩
        case measure => simp [intOf]; omega
    · obtain rfl : a = b := by omega
      have hc : a = V := by rw [← hV.out]; exact (cpos_eq (by rw [hn.out]; omega) (fun j y hj hy => H1.out j y hj hy) (fun y hy => H2.out a y (Nat.le_refl _) hy)).symm
      subst hc
      by_cases hlt2 : a < n
      · have hml : a < l.length := by rw [hn.out]; omega
        have hmn : (a : Int) < (n : Int) := by omega
        have hm0 : (0 : Int) ≤ (a : Int) := by omega
        obtain ⟨bk, off, x0, x1, x2, x3, x4, x5, x6, x7, rfl, hcl, l0, l1, l2, l3, l4, l5, l6, l7, l8, l9, l10, l11⟩ := load_nx (hr.out.fr (Fr.of_below HB.out NoS) (fun _ _ _ x => x)) hml
        have hcall := HC.out wr l[a]
        unfold Nx.agg at hcall
        rw [hcl, if_neg (H2.out a _ (Nat.le_refl _) (List.getElem?_eq_getElem hml))] at hcall
        clear hcl
        obtain ⟨y, hy⟩ : ∃ y, l[a] = y := ⟨_, rfl⟩
        rw [hy] at l0 l9 l10 l11 hcall
        clear hy
        obtain ⟨q0, hq0⟩ : ∃ q : Int, (y.x.seq : Int) = q := ⟨_, rfl⟩
        obtain ⟨q1, hq1⟩ : ∃ q, y.A = q := ⟨_, rfl⟩
        obtain ⟨q2, hq2⟩ : ∃ q, y.x.tok.length = q := ⟨_, rfl⟩
        obtain ⟨q3, hq3⟩ : ∃ q, y.c = q := ⟨_, rfl⟩
        obtain ⟨q4, hq4⟩ : ∃ q, y.x.path = q := ⟨_, rfl⟩
        obtain ⟨q5, hq5⟩ : ∃ q, y.x.told = q := ⟨_, rfl⟩
        rw [hq0] at l0 hcall
        rw [hq1, hq2, hq3] at l9 hcall
        rw [hq4] at l10 hcall
        rw [hq5] at l11 hcall
        clear hq0 hq1 hq2 hq3 hq4 hq5 hml hab
        go_wp2_with (go_at_fn 30; refine hcall.mono ?_; rintro e w' ⟨rfl, hb'⟩)
        go_ret2
        exact ⟨rfl, HB.out.trans (hb'.mono HB.out.size)⟩
      · have d1 : decide ((a : Int) < (n : Int)) = false := decide_eq_false (by omega)
        have d2 : decide (a < n) = false := decide_eq_false hlt2
        clear hab
        go_wp2_with fail
        go_ret2
        exact ⟨rfl, HB.out⟩
end Go.Proofs.Ytgmanhbfdjlhbaa
