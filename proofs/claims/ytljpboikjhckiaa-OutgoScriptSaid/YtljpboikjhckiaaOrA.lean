/- The document's own Out: what it holds; first, Counts, New. -/
import Derived.Test.YtljpboikjhckiaaOutG
import Derived.Test.YtljpboikjhckiaaAt
namespace Go.Proofs.Ytljpboikjhckiaa
open Go.RowKit

def iv8 (l : List UInt8) : List Value := l.map fun x => .int .i64 (x.toNat : Int)
@[simp] theorem iv8_length (l : List UInt8) : (iv8 l).length = l.length := by simp [iv8]
theorem iv8_one (l : List UInt8) : ∀ u ∈ iv8 l, u.oneCell' = true := by
  intro u hu; obtain ⟨_, _, rfl⟩ := List.mem_map.1 hu; rfl
theorem infoI : (Try.prog.info? 3).map (fun i => (i.zero, i.size, i.bytes)) = some (some (.int .i64 0), 1, 8) := by kernel_rfl
/-- Block p is the document's Out of n bytes D (at AD), their states, and the end's, S (block g, numbers). -/
structure IsRo (w : World) (p g n : Nat) (AD : Option Addr) (cD : Nat) (D S : List UInt8) : Prop where
  cell : w.heap[p]? = some (.cells #[.slice AD n cD, .slice (some ⟨g, 0, none⟩) (n + 1) (n + 1)] 52 (0, 0))
  row : w.ownsRow 0 3 1 (.slice (some ⟨g, 0, none⟩) (n + 1) (n + 1)) (n + 1) (iv8 S)
  rd : Rd w AD (bv D)
  lD : D.length = n
  cap : n ≤ cD ∧ cD ≤ 9223372036854775807
  ne : ∀ a, AD = some a → a.block ≠ g
  np : ∀ a, AD = some a → a.block ≠ p
  lt : ∀ a, AD = some a → a.block < w.heap.size
  small : n ≤ 1000000
section
variable {w w' : World} {p g n : Nat} {AD : Option Addr} {cD : Nat} {D S : List UInt8}
theorem IsRo.lS (h : IsRo w p g n AD cD D S) : S.length = n + 1 := by have := h.row.1; simpa [iv8] using this
theorem IsRo.at_ (h : IsRo w p g n AD cD D S) (k : Nat) (hk : k < S.length) : w.cell? ⟨g, k, none⟩ = some (.int .i64 (S[k].toNat : Int)) := by
  have hl := h.lS
  have := h.row.cellAt k (by omega)
  rw [this]
  simp [iv8, List.getElem?_eq_getElem hk]
theorem IsRo.lts (h : IsRo w p g n AD cD D S) : p < w.heap.size ∧ g < w.heap.size := ⟨heap_lt h.cell, (h.row.lt g rfl).2⟩
theorem IsRo.pg (h : IsRo w p g n AD cD D S) : p ≠ g := by
  rcases h.row.2 with ⟨h1, _⟩ | ⟨g', cap, cur, h1, _, hg, _⟩
  · cases h1
  · injection h1 with h1
    injection h1 with h1
    injection h1 with h1
    subst h1
    intro e
    subst e
    have := h.cell
    rw [hg] at this
    injection this with this
    injection this with _ h2
    exact absurd h2 (by decide)
theorem IsRo.fr {T : Nat → Prop} (h : IsRo w p g n AD cD D S) (f : Fr T w w') (hp : ¬ T p) (hg : ¬ T g) (hA : ∀ a, AD = some a → ¬ T a.block) : IsRo w' p g n AD cD D S :=
  ⟨heap_fr h.cell f hp, own_fr h.row f (fun k hk => by injection hk with hk; subst hk; exact hg), h.rd.fr f (fun _ a ha => hA a ha), h.lD, h.cap, h.ne, h.np, fun a ha => Nat.lt_of_lt_of_le (h.lt a ha) f.size, h.small⟩
theorem IsRo.below (h : IsRo w p g n AD cD D S) (b : Below w.heap.size w w') : IsRo w' p g n AD cD D S := h.fr (Fr.of_below b NoS) (fun x => x) (fun x => x) (fun _ _ x => x)
theorem IsRo.set (h : IsRo w p g n AD cD D S) (k : Nat) (x : UInt8) : IsRo (w.setCell ⟨g, k, none⟩ (.int .i64 (x.toNat : Int))) p g n AD cD D (S.set k x) ∧ Fr (fun q => q = g) w (w.setCell ⟨g, k, none⟩ (.int .i64 (x.toNat : Int))) := by
  have f : Fr (fun q => q = g) w (w.setCell ⟨g, k, none⟩ (.int .i64 (x.toNat : Int))) := (Fr.refl (fun q => q = g) w).setCell (p := ⟨g, k, none⟩) (fun _ => rfl) _
  have st := (h.row.stored k (.int .i64 (x.toNat : Int))).1
  rw [show (iv8 S).set k (.int .i64 (x.toNat : Int)) = iv8 (S.set k x) by rw [iv8, iv8, List.map_set]] at st
  exact ⟨⟨heap_fr h.cell f h.pg, st, h.rd.fr f (fun _ a ha => h.ne a ha), h.lD, h.cap, h.ne, h.np, fun a ha => Nat.lt_of_lt_of_le (h.lt a ha) f.size, h.small⟩, f⟩

set_option maxRecDepth 100000 in
set_option maxHeartbeats 2000000 in
theorem rfirst_any (h : IsRo w p g n AD cD D S) (x : UInt8) (xi : Int) (hx : (x.toNat : Int) = xi) :
    Calls Try.prog 28 #[.pointer (some ⟨p, 0, none⟩), .int .i64 xi] w fun e w' => e = .returned (.int .i64 (fidb (S.take n) x)) ∧ w = w' := by
  have c0 := wrote_cell h.cell 0 _ rfl
  have c1 := wrote_cell h.cell 1 _ rfl
  have hs := h.small
  have hl := h.lS
  have HA := Lib.hid h.at_
  replace hx := Lib.hid hx
  replace hl := Lib.hid hl
  clear h
  go_enter Try.func28, Try.ntmps28
  go_wp2_with fail
  go_loop [5] (fun i => ∃ k : Nat, k ≤ n ∧ i = .int .i64 k ∧ Hid (∀ j (hj : j < S.length), j < k → S[j] ≠ x)) (fun i => n - (intOf i).toNat)
  case atStart => exact ⟨0, by omega, rfl, Lib.hid (fun j hj h => by omega)⟩
  case round =>
    obtain ⟨k, hk, rfl, HK⟩ := hrel
    by_cases hkn : k < n
    · rename_i aa; clear aa
      have hkl : k < S.length := by have := hl.out; omega
      have g1 := HA.out k hkl
      obtain ⟨v, hv⟩ : ∃ v, S[k] = v := ⟨_, rfl⟩
      rw [hv] at g1
      obtain ⟨vi, hvi⟩ : ∃ vi : Int, (v.toNat : Int) = vi := ⟨_, rfl⟩
      rw [hvi] at g1
      by_cases hvx : v = x
      · have e1 : (vi == xi) = true := by rw [← hvi, ← hx.out, hvx]; simp
        have HR : Hid (fidb (S.take n) x = (k : Int)) := Lib.hid (by
          have ha : ahead (S.take n) x = k := ahead_of _ _ _ (fun j hj => ⟨S[j]'(by omega), by rw [List.getElem?_take, if_pos (by omega), List.getElem?_eq_getElem (by omega)], HK.out j (by omega) hj⟩) (fun y hy => by
            rw [List.getElem?_take, if_pos hkn, List.getElem?_eq_getElem hkl, hv] at hy
            injection hy with hy
            rw [← hy, hvx])
          rw [fidb, ha, if_pos (by rw [List.length_take]; omega)])
        clear hvi hv HK
        go_wp2_with fail
        go_ret
        exact ⟨ret_int HR.out.symm, rfl⟩
      · have e1 : (vi == xi) = false := by
          rw [beq_eq_false_iff_ne, ← hvi, ← hx.out]
          intro e
          exact hvx (UInt8.toNat_inj.1 (by exact_mod_cast e))
        have HK2 : Hid (∀ j (hj : j < S.length), j < k + 1 → S[j] ≠ x) := Lib.hid (fun j hj h => by
          by_cases e : j = k
          · subst e; rw [hv]; exact hvx
          · exact HK.out j hj (by omega))
        replace hvx := Lib.hid hvx
        clear hvi hv HK
        go_wp2_with fail
        go_round
        case rel => exact ⟨k + 1, by omega, by go_num, HK2⟩
        case measure => simp [intOf]; omega
    · have hk' : k = n := by omega
      have HR : Hid (fidb (S.take n) x = -1) := Lib.hid (by
        have hl2 := hl.out
        have ha : ahead (S.take n) x = n := ahead_of _ _ _ (fun j hj => ⟨S[j]'(by omega), by rw [List.getElem?_take, if_pos (by omega), List.getElem?_eq_getElem (by omega)], HK.out j (by omega) (by omega)⟩) (fun y hy => by
          rw [List.getElem?_eq_none (by rw [List.length_take]; omega)] at hy
          cases hy)
        rw [fidb, ha, if_neg (by rw [List.length_take]; omega)])
      clear HK
      go_wp2_with fail
      go_ret
      exact ⟨ret_int HR.out.symm, rfl⟩

set_option maxRecDepth 100000 in
set_option maxHeartbeats 4000000 in
theorem rcounts_any (h : IsRo w p g n AD cD D S) (a b : Nat) (c : Bool) (ha : cntNe (S.take n) 0 = a) (hb : cntNe (S.take n) 3 = b) (hc : odone S n = c) :
    Calls Try.prog 20 #[.pointer (some ⟨p, 0, none⟩)] w fun e w' => e = .returned (.tuple #[.int .i64 a, .int .i64 b, .bool c]) ∧ Still w w' := by
  have c0 := wrote_cell h.cell 0 _ rfl
  have c1 := wrote_cell h.cell 1 _ rfl
  have hs := h.small
  have hl := h.lS
  have HA := Lib.hid h.at_
  replace hl := Lib.hid hl
  replace ha := Lib.hid ha
  replace hb := Lib.hid hb
  replace hc := Lib.hid hc
  clear h
  go_enter Try.func20, Try.ntmps20
  go_wp2_with fail
  go_loop [5, 6, 7] (fun s t i => ∃ k u v : Nat, k ≤ n ∧ u ≤ k ∧ v ≤ k ∧ i = .int .i64 k ∧ s = .int .i64 u ∧ t = .int .i64 v ∧ Hid (cntNe (S.take k) 0 = u) ∧ Hid (cntNe (S.take k) 3 = v)) (fun _ _ i => n - (intOf i).toNat)
  case atStart => exact ⟨0, 0, 0, by omega, by omega, by omega, rfl, rfl, rfl, Lib.hid (by simp [cntNe]), Lib.hid (by simp [cntNe])⟩
  case round =>
    obtain ⟨k, u, v, hk, hu, hv, rfl, rfl, rfl, HU, HV⟩ := hrel
    by_cases hkn : k < n
    · rename_i aa; clear aa
      have hkl : k < S.length := by have := hl.out; omega
      have g1 := HA.out k hkl
      have s0 := cntNe_snoc S 0 k hkl
      have s3 := cntNe_snoc S 3 k hkl
      rw [HU.out] at s0
      rw [HV.out] at s3
      obtain ⟨y, hy⟩ : ∃ y, S[k] = y := ⟨_, rfl⟩
      rw [hy] at g1 s0 s3
      obtain ⟨yi, hyi⟩ : ∃ yi : Int, (y.toNat : Int) = yi := ⟨_, rfl⟩
      rw [hyi] at g1
      have hcs : (y = 0 ∧ (yi != 0) = false ∧ (yi != 3) = true) ∨ (y = 3 ∧ (yi != 0) = true ∧ (yi != 3) = false) ∨ (y ≠ 0 ∧ y ≠ 3 ∧ (yi != 0) = true ∧ (yi != 3) = true) := by
        by_cases h0 : y = 0
        · subst h0; left; rw [← hyi]; exact ⟨rfl, by decide, by decide⟩
        · by_cases h3 : y = 3
          · subst h3; right; left; rw [← hyi]; exact ⟨rfl, by decide, by decide⟩
          · right; right
            refine ⟨h0, h3, ?_, ?_⟩
            · rw [bne_iff_ne, ← hyi]; intro e; exact h0 (UInt8.toNat_inj.1 (by exact_mod_cast e))
            · rw [bne_iff_ne, ← hyi]; intro e; exact h3 (UInt8.toNat_inj.1 (by exact_mod_cast e))
      clear hyi hy HU HV
      rcases hcs with ⟨h0, e1, e2⟩ | ⟨h0, e1, e2⟩ | ⟨h0, h3, e1, e2⟩
      · rw [if_pos h0] at s0
        rw [if_neg (by rw [h0]; decide)] at s3
        replace s0 := Lib.hid s0
        replace s3 := Lib.hid s3
        clear h0
        go_wp2_with fail
        go_round
        case rel => exact ⟨k + 1, u, v + 1, by omega, by omega, by omega, by go_num, rfl, by go_num, Lib.hid s0.out, s3⟩
        case measure => simp [intOf]; omega
      · rw [if_neg (by rw [h0]; decide)] at s0
        rw [if_pos h0] at s3
        replace s0 := Lib.hid s0
        replace s3 := Lib.hid s3
        clear h0
        go_wp2_with fail
        go_round
        case rel => exact ⟨k + 1, u + 1, v, by omega, by omega, by omega, by go_num, by go_num, rfl, s0, Lib.hid s3.out⟩
        case measure => simp [intOf]; omega
      · rw [if_neg h0] at s0
        rw [if_neg h3] at s3
        replace s0 := Lib.hid s0
        replace s3 := Lib.hid s3
        clear h0 h3
        go_wp2_with fail
        go_round
        case rel => exact ⟨k + 1, u + 1, v + 1, by omega, by omega, by omega, by go_num, by go_num, by go_num, s0, s3⟩
        case measure => simp [intOf]; omega
    · have hk' : k = n := by omega
      subst hk'
      have hkl : k < S.length := by have := hl.out; omega
      have g1 := HA.out k hkl
      obtain ⟨y, hy⟩ : ∃ y, S[k] = y := ⟨_, rfl⟩
      rw [hy] at g1
      obtain ⟨yi, hyi⟩ : ∃ yi : Int, (y.toNat : Int) = yi := ⟨_, rfl⟩
      rw [hyi] at g1
      have hkI : (k : Int) < (k : Int) + 1 := by omega
      have hfin : ((v = 0 ∧ ((v : Int) == 0) = true ∧ (yi == 3) = c) ∨ (v ≠ 0 ∧ ((v : Int) == 0) = false ∧ c = false)) ∧ u = a ∧ v = b := by
        refine ⟨?_, by rw [← HU.out, ha.out], by rw [← HV.out, hb.out]⟩
        have hd := hc.out
        unfold odone at hd
        rw [HV.out, List.getElem?_eq_getElem hkl, hy] at hd
        by_cases h0 : v = 0
        · left
          refine ⟨h0, by rw [h0]; rfl, ?_⟩
          rw [← hd, h0, ← hyi]
          by_cases h3 : y = 3
          · subst h3; rfl
          · rw [beq_eq_false_iff_ne.2 (fun e => h3 (UInt8.toNat_inj.1 (by exact_mod_cast e)))]
            simp [h3]
        · right
          refine ⟨h0, by rw [beq_eq_false_iff_ne]; omega, ?_⟩
          rw [← hd]; simp [h0]
      obtain ⟨hfin, rfl, rfl⟩ := hfin
      clear hyi hy HU HV ha hb hc
      rcases hfin with ⟨h0, e1, e2⟩ | ⟨h0, e1, rfl⟩
      · replace h0 := Lib.hid h0
        go_wp2_with fail
        go_big_quiet (fail)
        go_wp2_with fail
        go_ret3
        exact ⟨rfl, Still.drewN _ _⟩
      · replace h0 := Lib.hid h0
        go_wp2_with fail
        go_big_quiet (fail)
        go_wp2_with fail
        go_ret3
        exact ⟨rfl, Still.drewN _ _⟩
end
end Go.Proofs.Ytljpboikjhckiaa
