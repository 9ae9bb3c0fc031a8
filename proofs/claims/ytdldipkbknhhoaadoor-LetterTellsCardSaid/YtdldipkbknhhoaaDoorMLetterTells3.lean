/- What the proof of LetterTells stands on, part 3: 14 texts of ours, one behind the other. -/
import Derived.Laws.OwnMore
import Derived.Deep.QuietTactic
import Derived.BigQuiet
import Derived.Lib.SlBytesConst
import Derived.Deep.CutRange
import Derived.Deep.Cut
import Derived.Deep.CutBlock
import Derived.Test.YtdldipkbknhhoaaDoorMLetterTells0
import Derived.Test.YtdldipkbknhhoaaDoorMLetterTells1
import Derived.Test.YtdldipkbknhhoaaDoorMLetterTells2
/- letter: the reader takes a part. -/
namespace Go.Proofs.YtdldipkbknhhoaaDoor
open Go.RowKit

theorem vget_bd (l : List UInt8) (h : (vget l).2.2 = 0) : 0 ≤ (vget l).1 ∧ (vget l).1 ≤ 4611686018427387903 ∧ 1 ≤ (vget l).2.1 ∧ (vget l).2.1 ≤ l.length := by
  cases l with
  | nil => simp [vget] at h
  | cons c r =>
    unfold vget at h ⊢
    by_cases h1 : (c :: r).length < vmany c
    · simp only [h1, if_true] at h; exact absurd h (by decide)
    · simp only [h1, if_false]
      have hc : c.toNat / 64 < 4 := by have := c.toNat_lt; omega
      have hm : vmany c = 1 ∨ vmany c = 2 ∨ vmany c = 4 ∨ vmany c = 8 := by
        unfold vmany
        have : c.toNat / 64 = 0 ∨ c.toNat / 64 = 1 ∨ c.toNat / 64 = 2 ∨ c.toNat / 64 = 3 := by omega
        rcases this with e | e | e | e <;> rw [e] <;> simp
      have hb := beN_bd ((c.toNat : Int) % 64) (r.take (vmany c - 1)) (by omega) 64 (by omega)
      have hl : (r.take (vmany c - 1)).length ≤ 7 := by rw [List.length_take]; omega
      have hp : (64 : Int) * 256 ^ (r.take (vmany c - 1)).length ≤ 4611686018427387904 := by
        have : (r.take (vmany c - 1)).length = 0 ∨ (r.take (vmany c - 1)).length = 1 ∨ (r.take (vmany c - 1)).length = 2 ∨ (r.take (vmany c - 1)).length = 3 ∨ (r.take (vmany c - 1)).length = 4 ∨ (r.take (vmany c - 1)).length = 5 ∨ (r.take (vmany c - 1)).length = 6 ∨ (r.take (vmany c - 1)).length = 7 := by omega
        rcases this with e | e | e | e | e | e | e | e <;> rw [e] <;> decide
      have hlen : (c :: r).length = r.length + 1 := rfl
      exact ⟨hb.1, by omega, by omega, by omega⟩
/-- A part: its kind, its data, what is behind. -/
def lrd (l : List UInt8) : Option (Int × List UInt8 × List UInt8) :=
  if (vget l).2.2 ≠ 0 then none
  else if (vget (l.drop (vget l).2.1.toNat)).2.2 ≠ 0 ∨ (l.length : Int) - (vget l).2.1 - (vget (l.drop (vget l).2.1.toNat)).2.1 < (vget (l.drop (vget l).2.1.toNat)).1 then none
  else some ((vget l).1, (l.drop ((vget l).2.1.toNat + (vget (l.drop (vget l).2.1.toNat)).2.1.toNat)).take (vget (l.drop (vget l).2.1.toNat)).1.toNat, l.drop ((vget l).2.1.toNat + (vget (l.drop (vget l).2.1.toNat)).2.1.toNat + (vget (l.drop (vget l).2.1.toNat)).1.toNat))

structure Lr (w : World) (p : Nat) (A : Option Addr) (n c : Nat) (l : List UInt8) : Prop where
  row : w.heap[p]? = some (.cells #[.slice A n c] 56 (0, 0))
  rd : Rd w A (bv l)
  len : l.length = n
  cap : n ≤ c
  capx : c ≤ 9223372036854775807
  far : ∀ a, A = some a → a.block ≠ p
  lt : ∀ a, A = some a → a.block < w.heap.size
  small : n ≤ 1000000
section
variable {w w' : World} {p : Nat} {A : Option Addr} {n c : Nat} {l : List UInt8}
theorem Lr.plt (h : Lr w p A n c l) : p < w.heap.size := heap_lt h.row
theorem Lr.fr {S : Nat → Prop} (h : Lr w p A n c l) (F : Fr S w w') (hp : ¬ S p) (hA : ∀ a, A = some a → ¬ S a.block) : Lr w' p A n c l :=
  ⟨heap_fr h.row F hp, h.rd.fr F (fun _ a ha => hA a ha), h.len, h.cap, h.capx, h.far, (fun a ha => by have := h.lt a ha; have := F.size; omega), h.small⟩
theorem Lr.below (h : Lr w p A n c l) (b : Below w.heap.size w w') : Lr w' p A n c l := h.fr (Fr.of_below b NoS) (fun x => x) (fun _ _ x => x)
theorem Lr.set (h : Lr w p A n c l) (X : Option Addr) (m : Nat) (hm : m ≤ n) (hc : CutOf A X m n c) : Lr (w.setCell ⟨p, 0, none⟩ (.slice X (n - m) (c - m))) p X (n - m) (c - m) (l.drop m) := by
  have hl := h.len
  have hcap := h.cap
  have hcx := h.capx
  have hsm := h.small
  refine ⟨heap_setCell_same w p 0 _ _ _ h.row, ?_, by rw [List.length_drop, hl], by omega, by omega, fun a ha => ?_, fun a ha => ?_, by omega⟩
  · have := hc.bytes' h.rd hl h.cap
    exact this.fr ((Fr.refl (fun k => k = p) w).setCell (p := ⟨p, 0, none⟩) (fun _ => rfl) _) (fun _ a ha e => by
      obtain ⟨a0, h1, h2⟩ := hc.blk a ha
      exact h.far a0 h1 (h2.trans e))
  · obtain ⟨a0, h1, h2⟩ := hc.blk a ha
    rw [← h2]; exact h.far a0 h1
  · obtain ⟨a0, h1, h2⟩ := hc.blk a ha
    have := h.lt a0 h1
    rw [← h2]
    simpa [World.setCell] using this
/-- What part hands back. -/
def RetPart (w : World) (p : Nat) (A : Option Addr) (l : List UInt8) (e : Ending) (w' : World) : Prop :=
  (lrd l = none ∧ e = .returned (.tuple #[.int .u64 0, .slice none 0 0, .bool false]) ∧ w = w') ∨
  ∃ k d r X dc A' n' c', lrd l = some (k, d, r) ∧ e = .returned (.tuple #[.int .u64 k, .slice X d.length dc, .bool true]) ∧ Rd w' X (bv d) ∧ d.length ≤ dc ∧ dc ≤ 9223372036854775807 ∧ (∀ a, X = some a → ∃ a0, A = some a0 ∧ a0.block = a.block) ∧ (∀ a, A' = some a → ∃ a0, A = some a0 ∧ a0.block = a.block) ∧ ((X = none → A = none) ∧ (A' = none → A = none)) ∧ Lr w' p A' n' c' r ∧ Fr (fun k => k = p) w w'
theorem lrd_len {k : Int} {d r : List UInt8} (h : lrd l = some (k, d, r)) : d.length + r.length + 2 ≤ l.length := by
  unfold lrd at h
  split at h
  · cases h
  · rename_i h1
    split at h
    · cases h
    · rename_i h2
      rw [not_or] at h2
      have b1 := vget_bd l (by simpa using h1)
      have b2 := vget_bd _ (by simpa using h2.1)
      have h3 := h2.2
      injection h with h
      injection h with _ h
      injection h with e1 e2
      rw [List.length_drop] at b2
      have e3 := congrArg List.length e1
      have e4 := congrArg List.length e2
      rw [List.length_take, List.length_drop] at e3
      rw [List.length_drop] at e4
      omega

set_option maxRecDepth 100000 in
set_option maxHeartbeats 8000000 in
theorem ltpart_rd (h : Lr w p A n c l) : Calls Tryd.prog 25 #[.pointer (some ⟨p, 0, none⟩)] w (RetPart w p A l) := by
  have c0 := wrote_cell h.row 0 _ rfl
  have f0 := frozen_of_row w p 0 _ _ h.row
  have hn := h.len
  have hcap := h.cap
  have hcx := h.capx
  have hsm := h.small
  have G1 := Lib.hid (get_any l A c w h.rd (by omega) (by omega) hcx)
  rw [hn] at G1
  obtain ⟨k, hk⟩ : ∃ x, (vget l).1 = x := ⟨_, rfl⟩
  obtain ⟨mi, hmi⟩ : ∃ x, (vget l).2.1 = x := ⟨_, rfl⟩
  obtain ⟨e1, he1⟩ : ∃ x, (vget l).2.2 = x := ⟨_, rfl⟩
  have bd1 := vget_bd l
  unfold vtup at G1
  rw [hk, hmi, he1] at G1
  rw [hk, hmi, he1, hn] at bd1
  obtain ⟨V, hV⟩ : ∃ x, lrd l = x := ⟨_, rfl⟩
  have hVe : lrd l = if e1 ≠ 0 then none
      else if (vget (l.drop mi.toNat)).2.2 ≠ 0 ∨ (n : Int) - mi - (vget (l.drop mi.toNat)).2.1 < (vget (l.drop mi.toNat)).1 then none
      else some (k, (l.drop (mi.toNat + (vget (l.drop mi.toNat)).2.1.toNat)).take (vget (l.drop mi.toNat)).1.toNat, l.drop (mi.toNat + (vget (l.drop mi.toNat)).2.1.toNat + (vget (l.drop mi.toNat)).1.toNat)) := by
    unfold lrd; rw [he1, hmi, hn, hk]
  clear hk hmi he1
  by_cases h1 : e1 = 0
  · have d1 : (e1 != 0) = false := by rw [h1]; rfl
    have hb := bd1 h1
    rw [if_neg (by rw [h1]; decide)] at hVe
    obtain ⟨m, rfl⟩ := Int.eq_ofNat_of_zero_le (show 0 ≤ mi by omega)
    rw [Int.toNat_natCast] at hVe
    obtain ⟨X1, hX1, hc1⟩ := cut_l (P := Tryd.prog) Tryd.underlying23 infoB A n c m (by omega) hcap
    have G2 := Lib.hid (get_any (l.drop m) X1 (c - m) w (hc1.bytes' h.rd hn hcap) (by rw [List.length_drop]; omega) (by rw [List.length_drop]; omega) (by omega))
    have hln2 : (l.drop m).length = n - m := by rw [List.length_drop, hn]
    rw [hln2] at G2
    have bd2 := vget_bd (l.drop m)
    obtain ⟨L, hL⟩ : ∃ x, (vget (l.drop m)).1 = x := ⟨_, rfl⟩
    obtain ⟨qi, hqi⟩ : ∃ x, (vget (l.drop m)).2.1 = x := ⟨_, rfl⟩
    obtain ⟨e2, he2⟩ : ∃ x, (vget (l.drop m)).2.2 = x := ⟨_, rfl⟩
    unfold vtup at G2
    rw [hL, hqi, he2] at G2
    rw [hL, hqi, he2, hln2] at bd2
    rw [hL, hqi, he2] at hVe
    clear hL hqi he2 hc1 hln2
    subst h1
    by_cases h2 : e2 = 0
    · have d2 : (e2 != 0) = false := by rw [h2]; rfl
      have hb2 := bd2 h2
      obtain ⟨q, rfl⟩ := Int.eq_ofNat_of_zero_le (show 0 ≤ qi by omega)
      obtain ⟨dl, rfl⟩ := Int.eq_ofNat_of_zero_le (show 0 ≤ L by omega)
      rw [Int.toNat_natCast, Int.toNat_natCast] at hVe
      obtain ⟨R, hR⟩ : ∃ R : Nat, R = n - m - q := ⟨_, rfl⟩
      have hw1 : IntKind.i64.wrap ((n : Int) - (m : Int)) = ((n - m : Nat) : Int) := by rw [IntKind.wrap_i64]; omega
      have hw2 : IntKind.i64.wrap (((n - m : Nat) : Int) - (q : Int)) = (R : Int) := by rw [IntKind.wrap_i64]; omega
      have hw3 : IntKind.u64.wrap (R : Int) = (R : Int) := by rw [IntKind.wrap_u64]; omega
      subst h2
      by_cases h3 : R < dl
      · have d3 : decide ((R : Int) < (dl : Int)) = true := decide_eq_true (by omega)
        have d3n : decide (R < dl) = true := decide_eq_true h3
        rw [if_pos (.inr (by omega))] at hVe
        replace hVe := Lib.hid hVe
        clear h hV bd1 bd2 hb hb2 h3 hR hn hcap hcx hsm
        go_enter Tryd.func25, Tryd.ntmps25
        go_wp2_with fail
        refine G1.out.mono ?_
        rintro e w' ⟨rfl, rfl⟩
        clear G1
        go_wp2_with fail
        refine G2.out.mono ?_
        rintro e w' ⟨rfl, rfl⟩
        clear G2
        go_wp2_with fail
        go_ret3
        exact .inl ⟨hVe.out, rfl, rfl⟩
      · have d3 : decide ((R : Int) < (dl : Int)) = false := decide_eq_false (by omega)
        have d3n : decide (R < dl) = false := decide_eq_false h3
        rw [if_neg (by rw [not_or]; exact ⟨by decide, by omega⟩)] at hVe
        obtain ⟨S, hS⟩ : ∃ S : Nat, S = m + q := ⟨_, rfl⟩
        obtain ⟨T, hT⟩ : ∃ T : Nat, T = S + dl := ⟨_, rfl⟩
        rw [← hS, ← hT] at hVe
        have hw4 : IntKind.i64.wrap ((m : Int) + (q : Int)) = (S : Int) := by rw [IntKind.wrap_i64]; omega
        have hw5 : IntKind.i64.wrap (dl : Int) = (dl : Int) := by rw [IntKind.wrap_i64]; omega
        have hw6 : IntKind.i64.wrap ((S : Int) + (dl : Int)) = (T : Int) := by rw [IntKind.wrap_i64]; omega
        obtain ⟨X2, hX2, hc2⟩ := cut_lh (P := Tryd.prog) Tryd.underlying23 infoB A n c S T (by omega) (by omega)
        obtain ⟨X3, hX3, hc3⟩ := cut_l (P := Tryd.prog) Tryd.underlying23 infoB A n c T (by omega) hcap
        have hL3 := Lib.hid (h.set X3 T (by omega) hc3)
        have hR2 : Rd w X2 (bv ((l.drop S).take dl)) := by
          have := hc2.bytes h.rd (by omega) (by omega)
          rwa [show T - S = dl from by omega] at this
        have hdl : ((l.drop S).take dl).length = dl := by rw [List.length_take, List.length_drop]; omega
        have hTS : T - S = dl := by omega
        rw [hTS] at hX2
        have hF : Hid (∀ W, W = w.setCell ⟨p, 0, none⟩ (.slice X3 (n - T) (c - T)) → RetPart w p A l (.returned (.tuple #[.int .u64 k, .slice X2 dl (c - S), .bool true])) W) := Lib.hid (by
          rintro W rfl
          have F1 : Fr (fun k => k = p) w (w.setCell ⟨p, 0, none⟩ (.slice X3 (n - T) (c - T))) := (Fr.refl (fun k => k = p) w).setCell (p := ⟨p, 0, none⟩) (fun _ => rfl) _
          exact .inr ⟨k, _, _, X2, c - S, X3, n - T, c - T, hVe, by rw [hdl], hR2.fr F1 (fun _ a ha e => by
            obtain ⟨a0, h1, h2⟩ := hc2.blk a ha
            exact h.far a0 h1 (h2.trans e)), by rw [hdl]; omega, by omega, hc2.blk, hc3.blk, ⟨hc2.nl, hc3.nl⟩, hL3.out, F1⟩)
        clear h hV bd1 bd2 hb hb2 h3 hL3 hR2 hdl hc2 hc3 hVe hTS hR hS hT hn hcap hcx hsm
        go_enter Tryd.func25, Tryd.ntmps25
        go_wp2_with fail
        refine G1.out.mono ?_
        rintro e w' ⟨rfl, rfl⟩
        clear G1
        go_wp2_with fail
        refine G2.out.mono ?_
        rintro e w' ⟨rfl, rfl⟩
        clear G2
        go_wp2_with fail
        go_ret3
        exact hF.out _ rfl
    · have d2 : (e2 != 0) = true := by simpa using h2
      rw [if_pos (.inl h2)] at hVe
      replace hVe := Lib.hid hVe
      replace h2 := Lib.hid h2
      clear h hV bd1 bd2 hb hn hcap hcx hsm
      go_enter Tryd.func25, Tryd.ntmps25
      go_wp2_with fail
      refine G1.out.mono ?_
      rintro e w' ⟨rfl, rfl⟩
      clear G1
      go_wp2_with fail
      refine G2.out.mono ?_
      rintro e w' ⟨rfl, rfl⟩
      clear G2
      go_wp2_with fail
      go_ret3
      exact .inl ⟨hVe.out, rfl, rfl⟩
  · have d1 : (e1 != 0) = true := by simpa using h1
    rw [if_pos h1] at hVe
    replace hVe := Lib.hid hVe
    replace h1 := Lib.hid h1
    clear h hV bd1 hn hcap hcx hsm
    go_enter Tryd.func25, Tryd.ntmps25
    go_wp2_with fail
    refine G1.out.mono ?_
    rintro e w' ⟨rfl, rfl⟩
    clear G1
    go_wp2_with fail
    go_ret3
    exact .inl ⟨hVe.out, rfl, rfl⟩
end
end Go.Proofs.YtdldipkbknhhoaaDoor

/- letter: is there a byte that is not zero? -/
namespace Go.Proofs.YtdldipkbknhhoaaDoor
open Go.RowKit

def nz (l : List UInt8) : Int := match l.findIdx? (fun x => decide (x ≠ 0)) with | some k => k | none => -1
theorem nz_any (l : List UInt8) : decide (0 ≤ nz l) = l.any (fun x => decide (x ≠ 0)) := by
  unfold nz
  rcases h : l.findIdx? (fun x => decide (x ≠ 0)) with _ | k
  · rw [List.findIdx?_eq_none_iff] at h
    have : l.any (fun x => decide (x ≠ 0)) = false := by
      rw [← Bool.not_eq_true, List.any_eq_true]
      rintro ⟨x, hx, hq⟩
      rw [h x hx] at hq; cases hq
    rw [this]; rfl
  · obtain ⟨hk, hr, _⟩ := List.findIdx?_eq_some_iff_getElem.1 h
    rw [List.any_eq_true.2 ⟨l[k], List.getElem_mem hk, hr⟩]
    exact decide_eq_true (Int.natCast_nonneg k)
theorem nz_hit (l : List UInt8) (k : Nat) (x : UInt8) (hx : l[k]? = some x) (hq : decide (x ≠ 0) = true) (h : ∀ j, j < k → ∀ y, l[j]? = some y → decide (y ≠ 0) = false) : nz l = k := by
  unfold nz
  obtain ⟨hk, e⟩ := List.getElem?_eq_some_iff.1 hx
  have : l.findIdx? (fun x => decide (x ≠ 0)) = some k := List.findIdx?_eq_some_iff_getElem.2 ⟨hk, by rw [e]; exact hq, fun j hj => by
    have := h j hj l[j] (List.getElem?_eq_getElem (by omega))
    rw [this]; decide⟩
  rw [this]
theorem nz_miss (l : List UInt8) (h : ∀ j, j < l.length → ∀ y, l[j]? = some y → decide (y ≠ 0) = false) : nz l = -1 := by
  unfold nz
  have : l.findIdx? (fun x => decide (x ≠ 0)) = none := List.findIdx?_eq_none_iff.2 fun x hx => by
    obtain ⟨j, hj, rfl⟩ := List.getElem_of_mem hx
    exact h j hj _ (List.getElem?_eq_getElem hj)
  rw [this]
theorem ent_get1 : Ent 28 := enters_of Tryd.func28 (by kernel_rfl) rfl
theorem get1_any (x : Int) (w : World) : Calls Tryd.prog 28 #[.int .u8 x] w fun e w' => e = .returned (.bool (x != 0)) ∧ w = w' := by
  go_enter Tryd.func28, Tryd.ntmps28
  go_wp2
  go_ret
  exact ⟨rfl, rfl⟩
set_option maxRecDepth 100000 in
set_option maxHeartbeats 4000000 in
theorem nzidx_any (l : List UInt8) (A : Option Addr) (n c : Nat) (w : World) (hn : l.length = n) (hr : Rd w A (bv l)) (hl : n ≤ 1000000) :
    Calls Tryd.prog 40 #[.slice A n c, .func (.func 28) #[] #[]] w fun e w' => e = .returned (.int .i64 (nz l)) ∧ w = w' := by
  have EG : ∀ (args : Array Value) (w : World), (callFunc 28 args).run Tryd.prog w = .ok (.enter 28 args) w := ent_get1
  obtain ⟨V, hV⟩ : ∃ V, nz l = V := ⟨_, rfl⟩
  have HH : Hid (∀ (k : Nat) (x : UInt8), l[k]? = some x → decide (x ≠ 0) = true → (∀ j, j < k → ∀ y, l[j]? = some y → decide (y ≠ 0) = false) → V = k) := Lib.hid (fun k x h1 h2 h3 => by rw [← hV]; exact nz_hit l k x h1 h2 h3)
  have HM : Hid ((∀ j, j < n → ∀ y, l[j]? = some y → decide (y ≠ 0) = false) → V = -1) := Lib.hid (fun h => by rw [← hV]; exact nz_miss l (by rw [hn]; exact h))
  rw [hV]
  clear hV
  replace hr := Lib.hid hr
  replace hn := Lib.hid hn
  go_enter Tryd.func40, Tryd.ntmps40
  go_wp2_with fail
  go_loop [5, 8] (fun _ i => ∃ k : Nat, k ≤ n ∧ i = .int .i64 k ∧ Hid (∀ j, j < k → ∀ y, l[j]? = some y → decide (y ≠ 0) = false)) (fun _ i => n - (intOf i).toNat)
  case atStart => exact ⟨0, by omega, rfl, Lib.hid (fun j hj => absurd hj (by omega))⟩
  case round =>
    obtain ⟨k, hk, rfl, HT⟩ := hrel
    by_cases hkl : k < n
    · rename_i aa
      have hkl2 : k < l.length := by rw [hn.out]; exact hkl
      obtain ⟨b, off, rfl, l0⟩ := hr.out.at_ (k := k) (by rw [bv_length]; exact hkl2)
      obtain ⟨x, hx⟩ : ∃ x, l[k] = x := ⟨_, rfl⟩
      have hx' : Hid (l[k]? = some x) := Lib.hid (by rw [List.getElem?_eq_getElem hkl2, hx])
      have l1 : w.cell? ⟨b, off + k, none⟩ = some (.int .u8 (x.toNat : Int)) := by
        rw [l0]; simp [bv, hx]
      clear l0 hx hkl2
      by_cases hz : x = 0
      · have hb : ((x.toNat : Int) != 0) = false := by rw [hz]; rfl
        have HT2 : Hid (∀ j, j < k + 1 → ∀ y, l[j]? = some y → decide (y ≠ 0) = false) := Lib.hid (fun j hj y hy => by
          rcases Nat.lt_or_ge j k with h | h
          · exact HT.out j h y hy
          · have : j = k := by omega
            subst this
            rw [hx'.out] at hy; injection hy with hy; rw [← hy, hz]; decide)
        replace hz := Lib.hid hz
        clear aa
        go_wp2_with fail
        refine (get1_any _ w).mono ?_
        rintro e w' ⟨rfl, rfl⟩
        go_wp2_with fail
        go_round
        case rel => exact ⟨k + 1, by omega, by go_num, HT2⟩
        case measure => simp [intOf]; omega
      · have hb : ((x.toNat : Int) != 0) = true := by
          rw [bne_iff_ne]
          intro e
          apply hz
          have h0 : x.toNat = 0 := by omega
          exact UInt8.toNat_inj.1 (by rw [h0]; rfl)
        have hVk : Hid (V = k) := Lib.hid (HH.out k x hx'.out (decide_eq_true hz) HT.out)
        replace hz := Lib.hid hz
        clear aa
        go_wp2_with fail
        refine (get1_any _ w).mono ?_
        rintro e w' ⟨rfl, rfl⟩
        go_wp2_with fail
        go_ret
        exact ⟨by rw [hVk.out]; rfl, rfl⟩
    · have hk' : k = n := by omega
      have hVk : Hid (V = -1) := Lib.hid (HM.out (by rw [← hk']; exact HT.out))
      go_wp2_with fail
      go_ret
      exact ⟨by rw [hVk.out]; rfl, rfl⟩
theorem nzcont_any (l : List UInt8) (A : Option Addr) (n c : Nat) (w : World) (hn : l.length = n) (hr : Rd w A (bv l)) (hl : n ≤ 1000000) :
    Calls Tryd.prog 27 #[.slice A n c, .func (.func 28) #[] #[]] w fun e w' => e = .returned (.bool (l.any (fun x => decide (x ≠ 0)))) ∧ w = w' := by
  have CI := Lib.hid (nzidx_any l A n c w hn hr hl)
  rw [← nz_any l]
  clear hr hn
  obtain ⟨V, hV⟩ : ∃ V, nz l = V := ⟨_, rfl⟩
  rw [hV] at CI ⊢
  clear hV
  go_enter Tryd.func27, Tryd.ntmps27
  go_wp2_with fail
  refine CI.out.mono ?_
  rintro e w' ⟨rfl, rfl⟩
  clear CI
  go_wp2_with fail
  go_ret
  exact ⟨rfl, rfl⟩
end Go.Proofs.YtdldipkbknhhoaaDoor

/- letter: Fits. -/
namespace Go.Proofs.YtdldipkbknhhoaaDoor
open Go.RowKit

def ltleast (fs : List Fd) (D : List UInt8) : Int :=
  if (ltplain fs D).2 ≠ 0 then 0 else if ltfits (ltplain fs D).1.length 256 then 256 else if ltfits (ltplain fs D).1.length 512 then 512 else if ltfits (ltplain fs D).1.length 1024 then 1024 else 0
theorem ix0 (w : World) : (Instr.index 52 (.agg #[.int .i64 256, .int .i64 512, .int .i64 1024]) (.int .i64 0)).run Tryd.prog w = .ok (.int .i64 256) w := by
  simp [Instr.index, go_sem, run_underlying Tryd.underlying52]
theorem ix1 (w : World) : (Instr.index 52 (.agg #[.int .i64 256, .int .i64 512, .int .i64 1024]) (.int .i64 1)).run Tryd.prog w = .ok (.int .i64 512) w := by
  simp [Instr.index, go_sem, run_underlying Tryd.underlying52]
theorem ix2 (w : World) : (Instr.index 52 (.agg #[.int .i64 256, .int .i64 512, .int .i64 1024]) (.int .i64 2)).run Tryd.prog w = .ok (.int .i64 1024) w := by
  simp [Instr.index, go_sem, run_underlying Tryd.underlying52]
set_option maxRecDepth 100000 in
set_option maxHeartbeats 8000000 in
theorem ltleast_any (fs : List Fd) (D : List UInt8) (A0 B : Option Addr) (m0 p0 m cm : Nat) (w : World) (hbk : BK w) (hn : fs.length = m0) (hm : D.length = m) (hr : Rd w A0 (fdv fs)) (hd : Rd w B (bv D)) (hl : m0 ≤ 1000000) (hm1 : m ≤ 900000) (hs : ∀ f ∈ fs, f.name.size ≤ 1000000 ∧ f.value.size ≤ 1000000) :
    Calls Tryd.prog 11 #[.agg #[.slice A0 m0 p0, .slice B m cm]] w fun e w' => e = .returned (.int .i64 (ltleast fs D)) ∧ Below w.heap.size w w' := by
  obtain ⟨P, hP⟩ : ∃ x, (ltplain fs D).1 = x := ⟨_, rfl⟩
  obtain ⟨F, hF⟩ : ∃ x, (ltplain fs D).2 = x := ⟨_, rfl⟩
  obtain ⟨pn, hpn⟩ : ∃ x, P.length = x := ⟨_, rfl⟩
  obtain ⟨V, hV⟩ : ∃ x, ltleast fs D = x := ⟨_, rfl⟩
  obtain ⟨f0, hf0⟩ : ∃ x, ltfits (pn : Int) 256 = x := ⟨_, rfl⟩
  obtain ⟨f1, hf1⟩ : ∃ x, ltfits (pn : Int) 512 = x := ⟨_, rfl⟩
  obtain ⟨f2, hf2⟩ : ∃ x, ltfits (pn : Int) 1024 = x := ⟨_, rfl⟩
  have CP : Hid (∀ W, Below w.heap.size w W → Calls Tryd.prog 21 #[.agg #[.slice A0 m0 p0, .slice B m cm]] W fun e w' => ∃ A' c', e = .returned (.tuple #[.slice A' pn c', .int .i64 F]) ∧ Below W.heap.size W w') := Lib.hid (fun W bl => by
    refine (ltplain_any fs D A0 B m0 p0 m cm W hn hm (hr.below bl) (hd.below bl) hl hm1 hs).mono ?_
    rintro e w' ⟨A', c', he, ho, hb⟩
    rw [hP, hF, hpn] at he
    exact ⟨A', c', he, hb⟩)
  have hVe : Hid (V = if F ≠ 0 then 0 else if f0 then 256 else if f1 then 512 else if f2 then 1024 else 0) := Lib.hid (by rw [← hV]; unfold ltleast; rw [hP, hF, hpn, hf0, hf1, hf2])
  have C0 : Hid (∀ W, Calls Tryd.prog 22 #[.int .i64 (pn : Int), .int .i64 256] W fun e w' => e = .returned (.bool f0) ∧ W = w') := Lib.hid (fun W => by rw [← hf0]; exact ltfits_any pn 256 W (by omega) (by omega))
  have C1 : Hid (∀ W, Calls Tryd.prog 22 #[.int .i64 (pn : Int), .int .i64 512] W fun e w' => e = .returned (.bool f1) ∧ W = w') := Lib.hid (fun W => by rw [← hf1]; exact ltfits_any pn 512 W (by omega) (by omega))
  have C2 : Hid (∀ W, Calls Tryd.prog 22 #[.int .i64 (pn : Int), .int .i64 1024] W fun e w' => e = .returned (.bool f2) ∧ W = w') := Lib.hid (fun W => by rw [← hf2]; exact ltfits_any pn 1024 W (by omega) (by omega))
  have HB : Hid (∀ W, Below w.heap.size w W → BK W) := Lib.hid (fun W b => hbk.below b)
  rw [hV]
  clear hP hF hpn hV hf0 hf1 hf2 hbk hr hd hn hm hs
  have I0 := ix0
  have I1 := ix1
  have I2 := ix2
  go_enter Tryd.func11, Tryd.ntmps11
  go_wp2_with fail
  obtain ⟨wa, hwa⟩ : ∃ wa, w.alloc (.cells #[.slice A0 m0 p0, .slice B m cm] 25) = wa := ⟨_, rfl⟩
  have ba : Hid (Below w.heap.size w wa) := Lib.hid (by rw [← hwa]; exact (Below.refl _ w).alloc (Nat.le_refl _) _)
  rw [hwa]
  clear hwa
  refine (CP.out _ ba.out).mono ?_
  rintro e w1 ⟨A1, c1, rfl, b1⟩
  have B1 : Hid (Below w.heap.size w w1) := Lib.hid (ba.out.trans (b1.mono ba.out.size))
  obtain ⟨g0, g1, g2⟩ := HB.out _ B1.out
  clear CP b1 ba HB
  by_cases hF : F = 0
  · have hV2 : Hid (V = if f0 then 256 else if f1 then 512 else if f2 then 1024 else 0) := Lib.hid (by rw [hVe.out, if_neg (by rw [hF]; decide)])
    have bF : (F == 0) = true := by rw [hF]; rfl
    subst hF
    clear hVe
    go_wp2_with fail
    go_loop [13, 6] (fun j _ => ∃ k : Nat, k ≤ 3 ∧ j = .int .i64 k ∧ Hid ((0 < k → f0 = false) ∧ (1 < k → f1 = false) ∧ (2 < k → f2 = false))) (fun j _ => 3 - (intOf j).toNat)
    case atStart => exact ⟨0, by omega, rfl, Lib.hid ⟨fun h => absurd h (by omega), fun h => absurd h (by omega), fun h => absurd h (by omega)⟩⟩
    case round =>
      obtain ⟨k, hk, rfl, HK⟩ := hrel
      rcases k with _ | _ | _ | _ | k
      · go_wp2_with fail
        refine (C0.out _).mono ?_
        rintro e w' ⟨rfl, rfl⟩
        cases f0 with
        | true =>
          have hh : Hid (V = 256) := Lib.hid (by rw [hV2.out]; rfl)
          go_wp2_with fail
          go_ret
          exact ⟨by rw [hh.out]; rfl, B1.out⟩
        | false =>
          go_wp2_with fail
          go_round
          case rel => exact ⟨1, by omega, by go_num, Lib.hid ⟨fun _ => by first | rfl | trivial, fun h => absurd h (by omega), fun h => absurd h (by omega)⟩⟩
          case measure => simp [intOf]
      · have k0 : f0 = false := HK.out.1 (by omega)
        subst k0
        go_wp2_with fail
        refine (C1.out _).mono ?_
        rintro e w' ⟨rfl, rfl⟩
        cases f1 with
        | true =>
          have hh : Hid (V = 512) := Lib.hid (by rw [hV2.out]; rfl)
          go_wp2_with fail
          go_ret
          exact ⟨by rw [hh.out]; rfl, B1.out⟩
        | false =>
          go_wp2_with fail
          go_round
          case rel => exact ⟨2, by omega, by go_num, Lib.hid ⟨fun _ => by first | rfl | trivial, fun _ => by first | rfl | trivial, fun h => absurd h (by omega)⟩⟩
          case measure => simp [intOf]
      · have k0 : f0 = false := HK.out.1 (by omega)
        have k1 : f1 = false := HK.out.2.1 (by omega)
        subst k0 k1
        go_wp2_with fail
        refine (C2.out _).mono ?_
        rintro e w' ⟨rfl, rfl⟩
        cases f2 with
        | true =>
          have hh : Hid (V = 1024) := Lib.hid (by rw [hV2.out]; rfl)
          go_wp2_with fail
          go_ret
          exact ⟨by rw [hh.out]; rfl, B1.out⟩
        | false =>
          go_wp2_with fail
          go_round
          case rel => exact ⟨3, by omega, by go_num, Lib.hid ⟨fun _ => by first | rfl | trivial, fun _ => by first | rfl | trivial, fun _ => by first | rfl | trivial⟩⟩
          case measure => simp [intOf]
      · have k0 : f0 = false := HK.out.1 (by omega)
        have k1 : f1 = false := HK.out.2.1 (by omega)
        have k2 : f2 = false := HK.out.2.2 (by omega)
        subst k0 k1 k2
        have hh : Hid (V = 0) := Lib.hid (by rw [hV2.out]; rfl)
        go_wp2_with fail
        go_ret
        exact ⟨by rw [hh.out]; rfl, B1.out⟩
      · exact absurd hk (by omega)
  · have hV2 : Hid (V = 0) := Lib.hid (by rw [hVe.out, if_pos hF])
    have bF : (F == 0) = false := by simpa using hF
    replace hF := Lib.hid hF
    clear hVe
    go_wp2_with fail
    go_loop [13, 6] (fun j _ => ∃ k : Nat, k ≤ 3 ∧ j = .int .i64 k) (fun j _ => 3 - (intOf j).toNat)
    case atStart => exact ⟨0, by omega, rfl⟩
    case round =>
      obtain ⟨k, hk, rfl⟩ := hrel
      rcases k with _ | _ | _ | _ | k
      · go_wp2_with fail
        go_round
        case rel => exact ⟨1, by omega, by go_num⟩
        case measure => simp [intOf]
      · go_wp2_with fail
        go_round
        case rel => exact ⟨2, by omega, by go_num⟩
        case measure => simp [intOf]
      · go_wp2_with fail
        go_round
        case rel => exact ⟨3, by omega, by go_num⟩
        case measure => simp [intOf]
      · go_wp2_with fail
        go_ret
        exact ⟨by rw [hV2.out]; rfl, B1.out⟩
      · exact absurd hk (by omega)
end Go.Proofs.YtdldipkbknhhoaaDoor

/- slices.Clone of bytes: a new slice with the same bytes; nothing old turns. -/
namespace Go.Proofs.YtdldipkbknhhoaaDoor
open Go.RowKit

set_option maxHeartbeats 400000 in
theorem clone_any (l : List UInt8) (A : Option Addr) (c : Nat) (w : World) (hr : Rd w A (bv l)) (hA : A = none → c = 0) (hl : l.length ≤ 140737488355328) :
    Calls Tryd.prog 26 #[.slice A l.length c] w (RetS 5 w l.length (bv l)) := by
  have hnil := fun (W : World) (B : Option Addr) (m k : Nat) => Lib.run_eql_slice_nil (P := Tryd.prog) W 23 5 B m k 0 0 Tryd.underlying23
  cases A with
  | none =>
    have hl0 : l = [] := by
      rcases l with _ | ⟨x, r⟩
      · rfl
      · obtain ⟨_, _, h, _⟩ := hr (by simp)
        cases h
    subst hl0
    have hc := hA rfl
    subst hc
    go_enter Tryd.func26, Tryd.ntmps26
    go_wp2
    go_ret
    exact ⟨none, 0, rfl, World.ownsRow_nil _ _ _ _, Below.refl _ _⟩
  | some a =>
    go_enter Tryd.func26, Tryd.ntmps26
    go_wp2_with (at_builtin; refine Hid.out ?_)
    refine Lib.hid ?_
    refine wpList_app _ rfl _ _ 23 (by rfl) w.heap.size 5 (.int .u8 0) 1 infoB Tryd.underlying23 rfl (.slice (some ⟨w.heap.size, 0, none⟩) 0 0) 0 [] (by rfl) (World.ownsRow_lit w #[] 0 (Nat.le_refl _) (by simp) rfl) (some a) l.length c (bv l) (by rfl) (by simp) (hr.alloc _) (bv_one l) (by unfold maxLen; omega) (by omega) (by simp) ?_
    intro A1 c1 w1 hown hgrow _
    have F := ((Fr.refl NoS w).alloc _).grown hgrow (fun k hk hlt => by simp [Value.ownBlock] at hk; omega)
    simp only [Nat.zero_add, List.nil_append] at hown ⊢
    go_wp2
    go_ret
    exact ⟨A1, c1, rfl, hown, Fr.below F⟩
theorem clone_to (l : List UInt8) (n : Nat) (A : Option Addr) (c : Nat) (w : World) (hn : l.length = n) (hr : Rd w A (bv l)) (hA : A = none → c = 0) (hl : n ≤ 140737488355328) :
    Calls Tryd.prog 26 #[.slice A n c] w (RetS 5 w n (bv l)) := by
  subst hn
  exact clone_any l A c w hr hA hl
end Go.Proofs.YtdldipkbknhhoaaDoor

/- letter: what Get tells: in plain Lean; the message's block. (The walk of Get is not here yet.) -/
namespace Go.Proofs.YtdldipkbknhhoaaDoor
open Go.RowKit

/-- The parts behind the list: the body, if all is well. -/
def lgo : Nat → Nat → List UInt8 → List UInt8 → Option (List UInt8)
  | _, _, [], bod => some bod
  | 0, _, _ :: _, bod => some bod
  | f + 1, k, x :: l, bod => match lrd (x :: l) with
    | none => none
    | some (kind, d, r) => if kind = 0 ∧ k = 0 then lgo f (k + 1) r d else if kind ≠ 33 ∨ d.any (fun x => decide (x ≠ 0)) = true then none else lgo f (k + 1) r bod
def lget (l : List UInt8) : (List Fd × List UInt8) × Int :=
  if bok l.length = false then (([], []), 13)
  else match lrd l with
    | none => (([], []), 5)
    | some (kind, list, r) => if kind ≠ 1 then (([], []), 5) else match lgo 1024 0 r [] with
      | none => (([], []), 5)
      | some bod => if (fget list).2 ≠ 0 then (([], []), (fget list).2) else (((fget list).1, bod), 0)
theorem lgo_nil (f k : Nat) (bod : List UInt8) : lgo f k [] bod = some bod := by cases f <;> rfl
theorem lgo_none {f k : Nat} {l bod : List UInt8} (h0 : l ≠ []) (h : lrd l = none) : lgo (f + 1) k l bod = none := by
  cases l with
  | nil => exact absurd rfl h0
  | cons x l => unfold lgo; rw [h]
theorem lgo_some {f k : Nat} {l bod d r : List UInt8} {kind : Int} (h0 : l ≠ []) (h : lrd l = some (kind, d, r)) :
    lgo (f + 1) k l bod = if kind = 0 ∧ k = 0 then lgo f (k + 1) r d else if kind ≠ 33 ∨ d.any (fun x => decide (x ≠ 0)) = true then none else lgo f (k + 1) r bod := by
  cases l with
  | nil => exact absurd rfl h0
  | cons x l => conv => { lhs; unfold lgo }; rw [h]
/-- What Get hands back. -/
def RetM (w : World) (x : (List Fd × List UInt8) × Int) (e : Ending) (w' : World) : Prop :=
  ∃ Af cf Ab cb, e = .returned (.tuple #[.agg #[.slice Af x.1.1.length cf, .slice Ab x.1.2.length cb], .int .i64 x.2]) ∧
    w'.ownsRow w.heap.size 47 2 (.slice Af x.1.1.length cf) x.1.1.length (fdv x.1.1) ∧ w'.ownsRow w.heap.size 5 1 (.slice Ab x.1.2.length cb) x.1.2.length (bv x.1.2) ∧ Below w.heap.size w w'
theorem res_ct {P : Program} {fn : Func} {p t1 : Tmp} {s : TypeId} (h : fn.results = #[.cell p s, .tmp t1]) (tmps : Array Value) (w : World) (a : Addr) (x : Value) {u1 : Value}
    (ha : tmps.getD p undef = .pointer (some a)) (hx : (loadVar s a).run P w = .ok x w) (h1 : tmps.getD t1 undef = u1) : (results fn tmps).run P w = .ok (.tuple #[x, u1]) w := by
  subst h1
  simp only [Array.getD_eq_getD_getElem?] at ha
  simp only [results, h]
  simp [Sem.run_bind, Result.andThen, ha, asAddr, hx]
theorem loadM {w : World} {g : Nat} {a b : Value} (h : w.heap[g]? = some (.cells #[a, b] 25 (0, 0))) (ha : ∃ A n c, a = .slice A n c) (hb : ∃ A n c, b = .slice A n c) : (loadVar 25 ⟨g, 0, none⟩).run Tryd.prog w = .ok (.agg #[a, b]) w := by
  obtain ⟨A, n, c, rfl⟩ := ha
  obtain ⟨B, m, d, rfl⟩ := hb
  have k0 := wrote_cell h 0 _ rfl
  have k1 := wrote_cell h 1 _ rfl
  simp [go_sem, k0, k1]
end Go.Proofs.YtdldipkbknhhoaaDoor

/- letter: Get. -/
namespace Go.Proofs.YtdldipkbknhhoaaDoor
open Go.RowKit

theorem Rd.back {w w' : World} {X : Option Addr} {xs : List Value} (h : Rd w' X xs) (b : Below w.heap.size w w') (hX : ∀ a, X = some a → a.block < w.heap.size) : Rd w X xs := fun hn => by
  obtain ⟨bb, off, e, hc⟩ := h hn
  have hlt : bb < w.heap.size := hX ⟨bb, off, none⟩ e
  refine ⟨bb, off, e, fun k u hu => ?_⟩
  rw [← b.cell (p := ⟨bb, off + k, none⟩) hlt]
  exact hc k u hu
/-- Get between two parts. -/
structure LG (w : World) (g q p : Nat) (W : World) (Ab : Option Addr) (nb cb : Nat) (bod : List UInt8) (A : Option Addr) (n c : Nat) (rest : List UInt8) : Prop where
  res : W.heap[g]? = some (.cells #[.slice none 0 0, .slice none 0 0] 25 (0, 0))
  msg : W.heap[q]? = some (.cells #[.slice none 0 0, .slice Ab nb cb] 25 (0, 0))
  own : W.ownsRow w.heap.size 5 1 (.slice Ab nb cb) nb (bv bod)
  ln : bod.length = nb
  lr : Lr W p A n c rest
  bel : Below w.heap.size w W
  hg : w.heap.size = g
  hq : q = g + 1
  hp : p = q + 1
  ab : ∀ a, A = some a → a.block < w.heap.size
  an : A ≠ none
  np : ∀ k, (Value.slice Ab nb cb).ownBlock = some k → p < k
section
variable {w W W' : World} {g q p : Nat} {Ab : Option Addr} {nb cb : Nat} {bod : List UInt8} {A : Option Addr} {n c : Nat} {rest : List UInt8}
theorem LG.below (h : LG w g q p W Ab nb cb bod A n c rest) (b : Below W.heap.size W W') : LG w g q p W' Ab nb cb bod A n c rest :=
  ⟨heap_fr h.res (Fr.of_below b NoS) (fun x => x), heap_fr h.msg (Fr.of_below b NoS) (fun x => x), own_fr h.own (Fr.of_below b NoS) (fun _ _ x => x), h.ln, h.lr.below b, h.bel.trans (b.mono h.bel.size), h.hg, h.hq, h.hp, h.ab, h.an, h.np⟩
theorem LG.part {A' : Option Addr} {n' c' : Nat} {r : List UInt8} (h : LG w g q p W Ab nb cb bod A n c rest) (F : Fr (fun k => k = p) W W') (hL : Lr W' p A' n' c' r) (hA : ∀ a, A' = some a → ∃ a0, A = some a0 ∧ a0.block = a.block) (hn : A' = none → A = none) : LG w g q p W' Ab nb cb bod A' n' c' r :=
  ⟨heap_fr h.res F (fun e => by have := h.hp; have := h.hq; omega), heap_fr h.msg F (fun e => by have := h.hp; omega), own_fr h.own F (fun k hk e => by have := h.np k hk; omega), h.ln, hL, Fr.under h.bel h.bel.size F (fun k hk _ => by have := h.hp; have := h.hq; have := h.hg; omega), h.hg, h.hq, h.hp, fun a ha => by
    obtain ⟨a0, h1, h2⟩ := hA a ha
    rw [← h2]; exact h.ab a0 h1, fun e => h.an (hn e), h.np⟩
end
/-- The result's block behind a store of both cells. -/
theorem end0 {w W : World} {g : Nat} {a b : Value} (X : W.heap[g]? = some (.cells #[a, b] 25 (0, 0))) (hb : Below w.heap.size w W) (hg : w.heap.size = g) (u v : Value) :
    ((W.setCell ⟨g, 0, none⟩ u).setCell ⟨g, 1, none⟩ v).heap[g]? = some (.cells #[u, v] 25 (0, 0)) ∧ Fr (fun k => k = g) W ((W.setCell ⟨g, 0, none⟩ u).setCell ⟨g, 1, none⟩ v) ∧ Below w.heap.size w ((W.setCell ⟨g, 0, none⟩ u).setCell ⟨g, 1, none⟩ v) := by
  have F : Fr (fun k => k = g) W ((W.setCell ⟨g, 0, none⟩ u).setCell ⟨g, 1, none⟩ v) := ((Fr.refl (fun k => k = g) W).setCell (p := ⟨g, 0, none⟩) (fun _ => rfl) u).setCell (p := ⟨g, 1, none⟩) (fun _ => rfl) v
  exact ⟨heap_setCell_same _ g 1 _ _ v (heap_setCell_same W g 0 _ _ u X), F, Fr.under hb hb.size F (fun k hk _ => by omega)⟩
set_option maxRecDepth 100000 in
set_option maxHeartbeats 8000000 in
theorem ltget_any (l : List UInt8) (A : Option Addr) (n c : Nat) (w : World) (hbk : BK w) (hn : l.length = n) (hr : Rd w A (bv l)) (hc : n ≤ c) (hcc : c ≤ 9223372036854775807) (hl : n ≤ 1000000) :
    Calls Tryd.prog 14 #[.slice A n c] w (RetM w (lget l)) := by
  obtain ⟨v, hv⟩ : ∃ x, bok (n : Int) = x := ⟨_, rfl⟩
  have CB : Hid (∀ W, Below w.heap.size w W → Calls Tryd.prog 12 #[.int .i64 (n : Int)] W fun e w' => e = .returned (.bool v) ∧ W = w') := Lib.hid (fun W bl => by rw [← hv]; exact bucket_any n W (hbk.below bl))
  have HV : Hid (v = false → lget l = (([], []), 13)) := Lib.hid (fun h => by unfold lget; rw [hn, hv, if_pos h])
  have HV2 : Hid (v = true → lget l = match lrd l with
    | none => (([], []), 5)
    | some (kind, list, r) => if kind ≠ 1 then (([], []), 5) else match lgo 1024 0 r [] with
      | none => (([], []), 5)
      | some bod => if (fget list).2 ≠ 0 then (([], []), (fget list).2) else (((fget list).1, bod), 0)) := Lib.hid (fun h => by
    conv => { lhs; unfold lget }
    rw [hn, hv, if_neg (by rw [h]; decide)]
    all_goals rfl)
  have hvb : Hid (v = true → 256 ≤ n ∧ n ≤ 1024) := Lib.hid (fun h => by have := bok_bd (b := (n : Int)) (by rw [hv, h]); omega)
  replace hr := Lib.hid hr
  replace hn := Lib.hid hn
  clear hv hbk
  obtain ⟨g, hg⟩ : ∃ g, w.heap.size = g := ⟨_, rfl⟩
  obtain ⟨wa, hwa⟩ : ∃ wa, w.alloc (.cells #[.slice none 0 0, .slice none 0 0] 25) = wa := ⟨_, rfl⟩
  have X0 : Hid (wa.heap[g]? = some (.cells #[.slice none 0 0, .slice none 0 0] 25 (0, 0))) := Lib.hid (by rw [← hwa, ← hg]; exact heap_alloc_new w _)
  have ba : Hid (Below w.heap.size w wa) := Lib.hid (by rw [← hwa]; exact (Below.refl _ w).alloc (Nat.le_refl _) _)
  have hsz : Hid (wa.heap.size = g + 1) := Lib.hid (by rw [← hwa, ← hg]; simp)
  go_enter Tryd.func14, Tryd.ntmps14
  go_wp2_with fail
  try rw [hwa]
  try rw [hg]
  refine (CB.out _ ba.out).mono ?_
  rintro e w' ⟨rfl, rfl⟩
  clear CB hwa
  cases v with
  | false =>
    have hV := Lib.hid (HV.out (by first | rfl | trivial))
    clear HV HV2 hvb hr hn
    have y0 := wrote_cell X0.out 0 _ rfl
    have y1 := wrote_cell X0.out 1 _ rfl
    have f0 := frozen_of_row wa g 0 _ _ X0.out
    have f1 := frozen_of_row wa g 1 _ _ X0.out
    go_wp2_with fail
    obtain ⟨e1, _, e2⟩ := end0 X0.out ba.out hg (.slice none 0 0) (.slice none 0 0)
    refine bodyPost_ret (v := .tuple #[.agg #[.slice none 0 0, .slice none 0 0], .int .i64 13]) (res_ct rfl _ _ ⟨g, 0, none⟩ _ rfl (loadM e1 ⟨_, _, _, rfl⟩ ⟨_, _, _, rfl⟩) rfl) rfl ?_
    rw [hV.out]
    exact ⟨none, 0, none, 0, rfl, World.ownsRow_nil _ _ _ _, World.ownsRow_nil _ _ _ _, e2⟩
  | true =>
    obtain ⟨h256, h1024⟩ := hvb.out (by first | rfl | trivial)
    have HG := Lib.hid (HV2.out (by first | rfl | trivial))
    clear HV HV2 hvb
    obtain ⟨a, hA, hAb⟩ := hr.out.lt (by rw [bv_length, hn.out]; omega)
    subst hA
    go_wp2_with fail
    obtain ⟨q, hq⟩ : ∃ q, wa.heap.size = q := ⟨_, rfl⟩
    rw [hq]
    obtain ⟨wc, hwc⟩ : ∃ wc, (wa.alloc (.cells #[.slice none 0 0, .slice none 0 0] 25)).alloc (.cells #[.slice (some a) n c] 56) = wc := ⟨_, rfl⟩
    have H0 : Hid (LG w g q (q + 1) wc none 0 0 [] (some a) n c l) := Lib.hid (by
      have hs := hsz.out
      have b1 : Below w.heap.size w wc := by rw [← hwc]; exact (ba.out.alloc ba.out.size _).alloc (by have := ba.out.size; simp; omega) _
      have F1 : Fr NoS wa wc := by rw [← hwc]; exact ((Fr.refl NoS wa).alloc _).alloc _
      refine ⟨heap_fr X0.out F1 (fun x => x), ?_, World.ownsRow_nil _ _ _ _, rfl, ⟨?_, hr.out.below b1, hn.out, hc, hcc, ?_, ?_, hl⟩, b1, hg, by omega, rfl, ?_, by simp, fun k hk => by cases hk⟩
      · have h1 := heap_alloc_new wa (.cells #[.slice none 0 0, .slice none 0 0] 25)
        rw [hq] at h1
        rw [← hwc]
        exact heap_fr h1 ((Fr.refl NoS _).alloc _) (fun x => x)
      · have h1 := heap_alloc_new (wa.alloc (.cells #[.slice none 0 0, .slice none 0 0] 25)) (.cells #[.slice (some a) n c] 56)
        rw [show ∀ o, (wa.alloc o).heap.size = q + 1 from fun o => by simp [hq]] at h1
        rw [← hwc]; exact h1
      · intro a' ha; injection ha with ha; subst ha; omega
      · intro a' ha; injection ha with ha; subst ha; have := b1.size; omega
      · intro a' ha; injection ha with ha; subst ha; exact hAb)
    rw [hwc]
    clear hwc X0 ba
    replace hq := Lib.hid hq
    refine (ltpart_rd H0.out.lr).mono ?_
    rintro e w3 (⟨e1, rfl, rfl⟩ | ⟨k, d, r, X, dl, A', n', c', e1, rfl, rX, dl1, dl2, bX, bA, ⟨nX, nA⟩, L', F'⟩)
    · have hV : Hid (lget l = (([], []), 5)) := Lib.hid (by rw [HG.out, e1])
      have y0 := wrote_cell H0.out.res 0 _ rfl
      have y1 := wrote_cell H0.out.res 1 _ rfl
      have f0 := frozen_of_row wc g 0 _ _ H0.out.res
      have f1 := frozen_of_row wc g 1 _ _ H0.out.res
      clear HG hr hn e1
      go_wp2_with fail
      obtain ⟨e1, _, e2⟩ := end0 H0.out.res H0.out.bel hg (.slice none 0 0) (.slice none 0 0)
      refine bodyPost_ret (v := .tuple #[.agg #[.slice none 0 0, .slice none 0 0], .int .i64 5]) (res_ct rfl _ _ ⟨g, 0, none⟩ _ rfl (loadM e1 ⟨_, _, _, rfl⟩ ⟨_, _, _, rfl⟩) rfl) rfl ?_
      rw [hV.out]
      exact ⟨none, 0, none, 0, rfl, World.ownsRow_nil _ _ _ _, World.ownsRow_nil _ _ _ _, e2⟩
    · have M1 := Lib.hid (H0.out.part F' L' bA nA)
      have hXb : ∀ a', X = some a' → a'.block < w.heap.size := fun a' ha => by
        obtain ⟨a0, h1, h2⟩ := bX a' ha
        rw [← h2]; exact H0.out.ab a0 h1
      have RX := Lib.hid (rX.back M1.out.bel hXb)
      have hlen := lrd_len e1
      rw [hn.out] at hlen
      have hG2 := HG.out
      rw [e1] at hG2
      clear HG H0 rX F' L' bA nA nX bX e1 hXb
      by_cases hk1 : k = 1
      · have dk : (k != 1) = false := by rw [hk1]; rfl
        simp only [hk1, ne_eq, not_true_eq_false, if_false] at hG2
        replace hG2 := Lib.hid hG2
        subst hk1
        clear hr hn
        go_wp2_with fail
        obtain ⟨N, hN⟩ : ∃ N, r.length = N := ⟨_, rfl⟩
        rw [hN] at hlen
        go_loopw [9] (fun i wr => ∃ (kk : Nat) (Ab : Option Addr) (nb cb : Nat) (bod : List UInt8) (A2 : Option Addr) (n2 c2 : Nat) (rest : List UInt8), i = .int .i64 kk ∧ kk + n2 ≤ N ∧ Hid (LG w g q (q + 1) wr Ab nb cb bod A2 n2 c2 rest) ∧ Hid (lgo (1024 - kk) kk rest bod = lgo 1024 0 r [])) (fun i _ => 2000 - (intOf i).toNat)
        case atStart => exact ⟨0, none, 0, 0, [], A', n', c', r, rfl, by rw [← M1.out.lr.len]; omega, M1, Lib.hid rfl⟩
        case round =>
          clear M1
          obtain ⟨kk, Ab, nb, cb, bod, A2, n2, c2, rest, rfl, hkk, M, HL⟩ := hrel
          have x0 := wrote_cell M.out.lr.row 0 _ rfl
          by_cases h0 : n2 = 0
          · have d0 : decide ((0 : Int) < (n2 : Int)) = false := decide_eq_false (by omega)
            have d0n : decide (0 < n2) = false := decide_eq_false (by omega)
            have hr0 : rest = [] := List.eq_nil_of_length_eq_zero (by rw [M.out.lr.len]; exact h0)
            replace h0 := Lib.hid h0
            subst hr0
            obtain ⟨L, hL⟩ : ∃ L, (fget d).1 = L := ⟨_, rfl⟩
            obtain ⟨E, hE⟩ : ∃ E, (fget d).2 = E := ⟨_, rfl⟩
            have CF := Lib.hid (fget_any d X dl d.length wr rfl (RX.out.below M.out.bel) dl1 dl2 (by omega))
            unfold RetG at CF
            rw [hL, hE] at CF
            have hV0 : lget l = if E ≠ 0 then (([], []), E) else ((L, bod), 0) := by
              rw [hG2.out, ← HL.out, lgo_nil]
              show (if (fget d).2 ≠ 0 then (([], []), (fget d).2) else (((fget d).1, bod), 0)) = _
              rw [hL, hE]
            replace hV0 := Lib.hid hV0
            clear hL hE HL hG2
            go_wp2_with fail
            refine CF.out.mono ?_
            rintro e w4 ⟨Af, cf, rfl, o4, b4⟩
            clear CF
            have M2 := Lib.hid (M.out.below b4)
            by_cases hE0 : E = 0
            · subst hE0
              have hV : Hid (lget l = ((L, bod), 0)) := Lib.hid (by rw [hV0.out, if_neg (by decide)])
              clear hV0
              have bE : ((0 : Int) != 0) = false := rfl
              have y0 := wrote_cell M2.out.msg 0 _ rfl
              have f0 := frozen_of_row w4 q 0 _ _ M2.out.msg
              obtain ⟨w5, hw5⟩ : ∃ w5, w4.setCell ⟨q, 0, none⟩ (.slice Af L.length cf) = w5 := ⟨_, rfl⟩
              have h1 := M2.out.hg
              have h2 := M2.out.hq
              have h3 := M.out.lr.plt
              have h4 := M.out.bel.size
              have F : Fr (fun k => k = q) w4 w5 := by rw [← hw5]; exact (Fr.refl (fun k => k = q) w4).setCell (p := ⟨q, 0, none⟩) (fun _ => rfl) _
              have m5 : w5.heap[q]? = some (.cells #[.slice Af L.length cf, .slice Ab nb cb] 25 (0, 0)) := by rw [← hw5]; exact heap_setCell_same _ q 0 _ _ _ M2.out.msg
              have r5 := heap_fr M2.out.res F (fun e => by omega)
              have b5 : Below w.heap.size w w5 := Fr.under M2.out.bel M2.out.bel.size F (fun k hk _ => by omega)
              have of5 := own_fr (own_base (base2 := w.heap.size) o4 (fun k hk => by have := (o4.lt k hk).1; omega)) F (fun k hk e => by have := (o4.lt k hk).1; omega)
              have ob5 := own_fr M2.out.own F (fun k hk e => by have := M2.out.np k hk; omega)
              have z0 := wrote_cell m5 0 _ rfl
              have z1 := wrote_cell m5 1 _ rfl
              have x0' := wrote_cell r5 0 _ rfl
              have x1' := wrote_cell r5 1 _ rfl
              have k0 := frozen_of_row w5 g 0 _ _ r5
              have k1 := frozen_of_row w5 g 1 _ _ r5
              have EN := Lib.hid (end0 r5 b5 hg (.slice Af L.length cf) (.slice Ab nb cb))
              have hln := Lib.hid M2.out.ln
              have gA : Hid (∀ k, (Value.slice Af L.length cf).ownBlock = some k → k ≠ g) := Lib.hid (fun k hk => by have := (o4.lt k hk).1; omega)
              have gB : Hid (∀ k, (Value.slice Ab nb cb).ownBlock = some k → k ≠ g) := Lib.hid (fun k hk => by have := M2.out.np k hk; omega)
              replace of5 := Lib.hid of5
              replace ob5 := Lib.hid ob5
              clear F m5 r5 b5 M M2 o4 b4 h1 h2 h3 h4
              subst hw5
              go_wp2_with fail
              obtain ⟨e1, eF, e2⟩ := EN.out
              refine bodyPost_ret (v := .tuple #[.agg #[.slice Af L.length cf, .slice Ab nb cb], .int .i64 0]) (res_ct rfl _ _ ⟨g, 0, none⟩ _ rfl (loadM e1 ⟨_, _, _, rfl⟩ ⟨_, _, _, rfl⟩) rfl) rfl ?_
              rw [hV.out]
              have e3 := own_fr ob5.out eF (fun k hk e => gB.out k hk e)
              have hl9 := hln.out
              subst hl9
              exact ⟨Af, cf, Ab, cb, rfl, own_fr of5.out eF (fun k hk e => gA.out k hk e), e3, e2⟩
            · have hV : Hid (lget l = (([], []), E)) := Lib.hid (by rw [hV0.out, if_pos hE0])
              clear hV0
              have bE : (E != 0) = true := by simpa using hE0
              replace hE0 := Lib.hid hE0
              have y0 := wrote_cell M2.out.res 0 _ rfl
              have y1 := wrote_cell M2.out.res 1 _ rfl
              have f0 := frozen_of_row w4 g 0 _ _ M2.out.res
              have f1 := frozen_of_row w4 g 1 _ _ M2.out.res
              clear M x0 o4 b4
              go_wp2_with fail
              obtain ⟨e1, _, e2⟩ := end0 M2.out.res M2.out.bel hg (.slice none 0 0) (.slice none 0 0)
              refine bodyPost_ret (v := .tuple #[.agg #[.slice none 0 0, .slice none 0 0], .int .i64 E]) (res_ct rfl _ _ ⟨g, 0, none⟩ _ rfl (loadM e1 ⟨_, _, _, rfl⟩ ⟨_, _, _, rfl⟩) rfl) rfl ?_
              rw [hV.out]
              exact ⟨none, 0, none, 0, rfl, World.ownsRow_nil _ _ _ _, World.ownsRow_nil _ _ _ _, e2⟩
          · rename_i aa
            clear aa
            have d0 : decide ((0 : Int) < (n2 : Int)) = true := decide_eq_true (by omega)
            have d0n : decide (0 < n2) = true := decide_eq_true (by omega)
            have hne : Hid (rest ≠ []) := Lib.hid (fun e => by have := M.out.lr.len; rw [e] at this; exact h0 this.symm)
            obtain ⟨f, hf⟩ : ∃ f, 1024 - kk = f + 1 := ⟨1023 - kk, by omega⟩
            rw [hf] at HL
            go_wp2_with fail
            refine (ltpart_rd M.out.lr).mono ?_
            rintro e w4 (⟨e1, rfl, rfl⟩ | ⟨kind, d2, r2, X2, dc2, A3, n3, c3, e1, rfl, rX2, dm1, dm2, bX2, bA2, ⟨nX2, nA2⟩, L2, F2⟩)
            · have hV : Hid (lget l = (([], []), 5)) := Lib.hid (by rw [hG2.out, ← HL.out, lgo_none hne.out e1])
              have y0 := wrote_cell M.out.res 0 _ rfl
              have y1 := wrote_cell M.out.res 1 _ rfl
              have f0 := frozen_of_row wr g 0 _ _ M.out.res
              have f1 := frozen_of_row wr g 1 _ _ M.out.res
              clear hG2 HL x0 e1
              go_wp2_with fail
              obtain ⟨e1, _, e2⟩ := end0 M.out.res M.out.bel hg (.slice none 0 0) (.slice none 0 0)
              refine bodyPost_ret (v := .tuple #[.agg #[.slice none 0 0, .slice none 0 0], .int .i64 5]) (res_ct rfl _ _ ⟨g, 0, none⟩ _ rfl (loadM e1 ⟨_, _, _, rfl⟩ ⟨_, _, _, rfl⟩) rfl) rfl ?_
              rw [hV.out]
              exact ⟨none, 0, none, 0, rfl, World.ownsRow_nil _ _ _ _, World.ownsRow_nil _ _ _ _, e2⟩
            · have M2 := Lib.hid (M.out.part F2 L2 bA2 nA2)
              have hlen2 := lrd_len e1
              rw [M.out.lr.len] at hlen2
              have hl2 := L2.len
              have hXn : Hid (X2 ≠ none) := Lib.hid (fun e => M.out.an (nX2 e))
              have HL2 := HL.out
              rw [lgo_some hne.out e1] at HL2
              replace rX2 := Lib.hid rX2
              clear HL M F2 L2 bA2 nA2 nX2 bX2 e1 hne x0
              by_cases hk0 : kind = 0 ∧ kk = 0
              · obtain ⟨rfl, rfl⟩ := hk0
                rw [if_pos ⟨rfl, rfl⟩] at HL2
                have HL3 : Hid (lgo (1024 - (0 + 1)) (0 + 1) r2 d2 = lgo 1024 0 r []) := Lib.hid (by rw [← HL2, show 1024 - (0 + 1) = f from by omega])
                have CC := Lib.hid (clone_any d2 X2 dc2 w4 rX2.out (fun e => absurd e hXn.out) (by omega))
                clear HL2
                go_wp2_with fail
                refine CC.out.mono ?_
                rintro e w5 ⟨A5, c5, rfl, o5, b5⟩
                have M3 := Lib.hid (M2.out.below b5)
                have y1 := wrote_cell M3.out.msg 1 _ rfl
                have f1 := frozen_of_row w5 q 1 _ _ M3.out.msg
                have M4 : Hid (∀ W, W = w5.setCell ⟨q, 1, none⟩ (.slice A5 d2.length c5) → LG w g q (q + 1) W A5 d2.length c5 d2 A3 n3 c3 r2) := Lib.hid (by
                  rintro W rfl
                  have F : Fr (fun k => k = q) w5 (w5.setCell ⟨q, 1, none⟩ (.slice A5 d2.length c5)) := (Fr.refl (fun k => k = q) w5).setCell (p := ⟨q, 1, none⟩) (fun _ => rfl) _
                  have h1 := M3.out.hg
                  have h2 := M3.out.hq
                  have h3 := M2.out.lr.plt
                  have h4 := M2.out.bel.size
                  exact ⟨heap_fr M3.out.res F (fun e => by omega), heap_setCell_same _ q 1 _ _ _ M3.out.msg, own_fr (own_base (base2 := w.heap.size) o5 (fun k hk => by have := (o5.lt k hk).1; omega)) F (fun k hk e => by have := (o5.lt k hk).1; omega), rfl,
                    M3.out.lr.fr F (fun e => by omega) (fun a ha e => by have := M3.out.ab a ha; omega), Fr.under M3.out.bel M3.out.bel.size F (fun k hk _ => by omega), h1, h2, rfl, M3.out.ab, M3.out.an, fun k hk => by have := (o5.lt k hk).1; omega⟩)
                clear CC M2 M3 o5 b5
                go_wp2_with fail
                go_roundw
                case rel => exact ⟨1, A5, d2.length, c5, d2, A3, n3, c3, r2, by go_num, by omega, Lib.hid (M4.out _ rfl), HL3⟩
                case measure => simp [intOf]
              · rw [if_neg hk0] at HL2
                have HT : Hid (∀ b : Bool, (kind == 0) = b → b = true → (kk : Int) ≠ 0) := Lib.hid (fun b h1 h2 h3 => hk0 ⟨by rw [h2] at h1; exact beq_iff_eq.1 h1, by omega⟩)
                by_cases hk33 : kind = 33
                · have t0 : (kind == 0) = false := by rw [hk33]; rfl
                  have t1 : (kind != 33) = false := by rw [hk33]; rfl
                  subst hk33
                  have CZ := Lib.hid (nzcont_any d2 X2 d2.length dc2 w4 rfl rX2.out (by omega))
                  obtain ⟨b, hb⟩ : ∃ b, d2.any (fun x => decide (x ≠ 0)) = b := ⟨_, rfl⟩
                  rw [hb] at CZ HL2
                  clear hb HT
                  cases b with
                  | true =>
                    have hV : Hid (lget l = (([], []), 5)) := Lib.hid (by rw [hG2.out, ← HL2]; simp)
                    have y0 := wrote_cell M2.out.res 0 _ rfl
                    have y1 := wrote_cell M2.out.res 1 _ rfl
                    have f0 := frozen_of_row w4 g 0 _ _ M2.out.res
                    have f1 := frozen_of_row w4 g 1 _ _ M2.out.res
                    clear HL2 hG2 hk0
                    go_wp2_with fail
                    refine CZ.out.mono ?_
                    rintro e w5 ⟨rfl, rfl⟩
                    clear CZ
                    go_wp2_with fail
                    obtain ⟨e1, _, e2⟩ := end0 M2.out.res M2.out.bel hg (.slice none 0 0) (.slice none 0 0)
                    refine bodyPost_ret (v := .tuple #[.agg #[.slice none 0 0, .slice none 0 0], .int .i64 5]) (res_ct rfl _ _ ⟨g, 0, none⟩ _ rfl (loadM e1 ⟨_, _, _, rfl⟩ ⟨_, _, _, rfl⟩) rfl) rfl ?_
                    rw [hV.out]
                    exact ⟨none, 0, none, 0, rfl, World.ownsRow_nil _ _ _ _, World.ownsRow_nil _ _ _ _, e2⟩
                  | false =>
                    have HL3 : Hid (lgo (1024 - (kk + 1)) (kk + 1) r2 bod = lgo 1024 0 r []) := Lib.hid (by rw [← HL2, show 1024 - (kk + 1) = f from by omega]; simp)
                    clear HL2 hk0
                    go_wp2_with fail
                    refine CZ.out.mono ?_
                    rintro e w5 ⟨rfl, rfl⟩
                    clear CZ
                    go_wp2_with fail
                    go_roundw
                    case rel => exact ⟨kk + 1, Ab, nb, cb, bod, A3, n3, c3, r2, by go_num, by omega, M2, HL3⟩
                    case measure => simp [intOf]; omega
                · have hV : Hid (lget l = (([], []), 5)) := Lib.hid (by rw [hG2.out, ← HL2]; simp [hk33])
                  have t1 : (kind != 33) = true := by simpa using hk33
                  by_cases hz : kind = 0
                  · have t0 : (kind == 0) = true := by rw [hz]; rfl
                    have t2 : ((kk : Int) == 0) = false := beq_eq_false_iff_ne.2 (HT.out true t0 rfl)
                    replace hz := Lib.hid hz
                    have y0 := wrote_cell M2.out.res 0 _ rfl
                    have y1 := wrote_cell M2.out.res 1 _ rfl
                    have f0 := frozen_of_row w4 g 0 _ _ M2.out.res
                    have f1 := frozen_of_row w4 g 1 _ _ M2.out.res
                    clear HL2 hG2 hk0 HT hk33
                    go_wp2_with fail
                    obtain ⟨e1, _, e2⟩ := end0 M2.out.res M2.out.bel hg (.slice none 0 0) (.slice none 0 0)
                    refine bodyPost_ret (v := .tuple #[.agg #[.slice none 0 0, .slice none 0 0], .int .i64 5]) (res_ct rfl _ _ ⟨g, 0, none⟩ _ rfl (loadM e1 ⟨_, _, _, rfl⟩ ⟨_, _, _, rfl⟩) rfl) rfl ?_
                    rw [hV.out]
                    exact ⟨none, 0, none, 0, rfl, World.ownsRow_nil _ _ _ _, World.ownsRow_nil _ _ _ _, e2⟩
                  · have t0 : (kind == 0) = false := beq_eq_false_iff_ne.2 hz
                    replace hz := Lib.hid hz
                    have y0 := wrote_cell M2.out.res 0 _ rfl
                    have y1 := wrote_cell M2.out.res 1 _ rfl
                    have f0 := frozen_of_row w4 g 0 _ _ M2.out.res
                    have f1 := frozen_of_row w4 g 1 _ _ M2.out.res
                    clear HL2 hG2 hk0 HT hk33
                    go_wp2_with fail
                    obtain ⟨e1, _, e2⟩ := end0 M2.out.res M2.out.bel hg (.slice none 0 0) (.slice none 0 0)
                    refine bodyPost_ret (v := .tuple #[.agg #[.slice none 0 0, .slice none 0 0], .int .i64 5]) (res_ct rfl _ _ ⟨g, 0, none⟩ _ rfl (loadM e1 ⟨_, _, _, rfl⟩ ⟨_, _, _, rfl⟩) rfl) rfl ?_
                    rw [hV.out]
                    exact ⟨none, 0, none, 0, rfl, World.ownsRow_nil _ _ _ _, World.ownsRow_nil _ _ _ _, e2⟩
      · have dk : (k != 1) = true := by simpa using hk1
        have hV : Hid (lget l = (([], []), 5)) := Lib.hid (by rw [hG2]; simp [hk1])
        replace hk1 := Lib.hid hk1
        have y0 := wrote_cell M1.out.res 0 _ rfl
        have y1 := wrote_cell M1.out.res 1 _ rfl
        have f0 := frozen_of_row w3 g 0 _ _ M1.out.res
        have f1 := frozen_of_row w3 g 1 _ _ M1.out.res
        clear hG2 hr hn
        go_wp2_with fail
        obtain ⟨e1, _, e2⟩ := end0 M1.out.res M1.out.bel hg (.slice none 0 0) (.slice none 0 0)
        refine bodyPost_ret (v := .tuple #[.agg #[.slice none 0 0, .slice none 0 0], .int .i64 5]) (res_ct rfl _ _ ⟨g, 0, none⟩ _ rfl (loadM e1 ⟨_, _, _, rfl⟩ ⟨_, _, _, rfl⟩) rfl) rfl ?_
        rw [hV.out]
        exact ⟨none, 0, none, 0, rfl, World.ownsRow_nil _ _ _ _, World.ownsRow_nil _ _ _ _, e2⟩
end Go.Proofs.YtdldipkbknhhoaaDoor

/- fields, plain law: what is laid is read as it was. -/
namespace Go.Proofs.YtdldipkbknhhoaaDoor
open Go.RowKit

theorem phead_mul (f : Int) (b : Nat) : phead f b = 2 ^ b * (f / 2 ^ b) := by
  have := Int.emod_add_mul_ediv f (2 ^ b)
  unfold phead; omega
theorem head_div (f : Int) (b : Nat) (x : Int) (hb1 : 1 ≤ b) (hb8 : b ≤ 8) (hx0 : 0 ≤ x) (hx : x ≤ 2 ^ b - 1) : (phead f b + x) / 2 ^ b = f / 2 ^ b := by
  have hP := pmost_bd b hb1 hb8
  rw [phead_mul, Int.add_comm, Int.add_mul_ediv_left _ _ (by omega), Int.ediv_eq_zero_of_lt hx0 (by omega)]
  omega
theorem pput_head (f : Int) (b : Nat) (n : Int) (h0 : 0 ≤ f) (h1 : f ≤ 255) (hb1 : 1 ≤ b) (hb8 : b ≤ 8) (hn0 : 0 ≤ n) :
    ∃ x r, pput f b n = x :: r ∧ (x.toNat : Int) / 2 ^ b = f / 2 ^ b := by
  have hP := pmost_bd b hb1 hb8
  unfold pput
  by_cases hlt : n < pmost b
  · rw [if_pos hlt]
    unfold pmost at hlt
    refine ⟨_, _, rfl, ?_⟩
    rw [(head_mod f b n h0 h1 hb1 hb8 hn0 (by omega)).1, head_div f b n hb1 hb8 hn0 (by omega)]
  · rw [if_neg hlt]
    refine ⟨_, _, rfl, ?_⟩
    unfold pmost
    rw [(head_mod f b (2 ^ b - 1) h0 h1 hb1 hb8 (by omega) (by omega)).1, head_div f b _ hb1 hb8 (by omega) (by omega)]
theorem pclr_bit (f : Int) (b : Nat) (h0 : 0 ≤ f) (h1 : f ≤ 255) (hb1 : 1 ≤ b) (hb7 : b ≤ 7) : pclr f b / 2 ^ b % 2 = 0 := by
  have hb : b = 1 ∨ b = 2 ∨ b = 3 ∨ b = 4 ∨ b = 5 ∨ b = 6 ∨ b = 7 := by omega
  unfold pclr
  rcases hb with rfl | rfl | rfl | rfl | rfl | rfl | rfl <;> simp only [Int.reducePow] <;> omega

theorem pgettext_ptext (f : Int) (b : Nat) (s t : List UInt8) (h0 : 0 ≤ f) (h1 : f ≤ 255) (hb1 : 1 ≤ b) (hb7 : b ≤ 7) (hs : s.length ≤ 2000) :
    pgettext b (ptext f b s ++ t) = (s, ((ptext f b s).length : Int), 0) := by
  have hc := pclr_bd f b h0 h1 hb1 hb7
  have hg := pget_pput (pclr f b) b s.length (s ++ t) hc.1 hc.2 hb1 (by omega) (by omega) (by omega)
  obtain ⟨x, r, he, hx⟩ := pput_head (pclr f b) b s.length hc.1 hc.2 hb1 (by omega) (by omega)
  rw [pclr_bit f b h0 h1 hb1 hb7 |> fun h => show pclr f b / 2 ^ b = pclr f b / 2 ^ b from rfl] at hx
  have hbit := pclr_bit f b h0 h1 hb1 hb7
  have ht : ptext f b s ++ t = pput (pclr f b) b s.length ++ (s ++ t) := by unfold ptext; simp
  have hl : (ptext f b s).length = (pput (pclr f b) b s.length).length + s.length := by unfold ptext; simp
  rw [ht, hl]
  generalize pput (pclr f b) b s.length = p at he hg
  have hd : (p ++ (s ++ t)).drop p.length = s ++ t := by simp
  have hlen : (p ++ (s ++ t)).length = p.length + (s.length + t.length) := by simp
  subst he
  have key : ∀ q : List UInt8, (∃ r', q = x :: r') → pgettext b q = if (x.toNat : Int) / 2 ^ b % 2 = 1 then ([], 0, 6)
    else if (pget b q).2.2 ≠ 0 then ([], 0, (pget b q).2.2)
    else if 2000 < (pget b q).1 then ([], 0, 4)
    else if (q.length : Int) - (pget b q).2.1 < (pget b q).1 then ([], 0, 3)
    else ((q.drop (pget b q).2.1.toNat).take (pget b q).1.toNat, (pget b q).2.1 + (pget b q).1, 0) := by
    rintro q ⟨r', rfl⟩; rfl
  rw [key _ ⟨_, List.cons_append⟩, hg, hx, hbit, if_neg (by omega), if_neg (by simp), if_neg (by simp only []; omega), if_neg (by rw [hlen]; simp only []; omega)]
  simp only [Int.toNat_natCast, hd, List.take_left', Prod.mk.injEq]
  refine ⟨by simp, by omega, trivial⟩
theorem txt_back (v : ByteArray) : (⟨v.data.toList.toArray⟩ : ByteArray) = v := by simp
theorem ptxt_ptext (f : Int) (b : Nat) (v : ByteArray) (t : List UInt8) (h0 : 0 ≤ f) (h1 : f ≤ 255) (hb1 : 1 ≤ b) (hb7 : b ≤ 7) (hs : v.size ≤ 2000) :
    ptxt b (ptext f b v.data.toList ++ t) 0 = (t, 0, v) := by
  unfold ptxt
  rw [if_neg (by omega), pgettext_ptext f b _ t h0 h1 hb1 hb7 (by rw [data_length]; exact hs)]
  simp only [Int.toNat_natCast, List.drop_left', txt_back]
theorem pval_ptext (v : ByteArray) (t : List UInt8) (hs : v.size ≤ 400) (hv : valok v = true) : pval (ptext 0 7 v.data.toList ++ t) 0 = (t, 0, v) := by
  unfold pval
  rw [ptxt_ptext 0 7 v t (by omega) (by omega) (by omega) (by omega) (by omega)]
  rw [if_neg (by simp), if_neg (by simp only []; omega), if_pos hv]
theorem fixed_len : fixed.length = 16 := by decide
theorem pnum_pput (f : Int) (b k : Nat) (t : List UInt8) (h0 : 0 ≤ f) (h1 : f ≤ 255) (hb1 : 1 ≤ b) (hb8 : b ≤ 8) (hk : k < 16) :
    pnum b (pput f b k ++ t) = (t, 0, fixed.getD k fdz) := by
  unfold pnum
  rw [pget_pput f b k t h0 h1 hb1 hb8 (by omega) (by omega), if_neg (by simp), if_neg (by simp only []; omega)]
  simp only [Int.toNat_natCast, List.drop_left']
theorem fi_some {q : Fd → Bool} {k : Nat} (h : fixed.findIdx? q = some k) : k < 16 ∧ q (fixed.getD k fdz) = true := by
  obtain ⟨hk, hq, _⟩ := List.findIdx?_eq_some_iff_getElem.1 h
  rw [fixed_len] at hk
  refine ⟨hk, ?_⟩
  rw [List.getD_eq_getElem?_getD, List.getElem?_eq_getElem (by rw [fixed_len]; exact hk), Option.getD_some]
  exact hq
theorem nat_head {x : UInt8} {b : Nat} {f : Int} (h : (x.toNat : Int) / 2 ^ b = f / 2 ^ b) (g : Nat) (hg : f / 2 ^ b = (g : Int)) : x.toNat / 2 ^ b = g := by
  rw [hg] at h
  have e : ((x.toNat / 2 ^ b : Nat) : Int) = (g : Int) := by rw [Int.natCast_ediv, Int.natCast_pow]; exact h
  exact Int.ofNat.inj e
theorem pln_fline (f : Fd) (t : List UInt8) (hf : fok f = true) (hv : f.value.size ≤ 400) : pln (fline f ++ t) = (t, 0, f) := by
  unfold fok at hf
  rw [Bool.and_eq_true] at hf
  have hn60 := nameok_size hf.1
  have hpv := pval_ptext f.value t hv hf.2
  unfold fline
  split
  · rename_i k hk
    obtain ⟨h16, hq⟩ := fi_some hk
    have hq := of_decide_eq_true hq
    have hp := pnum_pput 192 6 k t (by omega) (by omega) (by omega) (by omega) h16
    obtain ⟨x, r, he, hx⟩ := pput_head 192 6 k (by omega) (by omega) (by omega) (by omega) (by omega)
    have hx := nat_head hx 3 (by decide)
    rw [he] at hp ⊢
    rw [List.cons_append] at hp ⊢
    simp only [Nat.reducePow] at hx
    rw [pln.eq_2]
    rw [if_pos hx, hp, hq]
  · unfold fhead
    split
    · rename_i k hk
      obtain ⟨h16, hq⟩ := fi_some hk
      have hq := of_decide_eq_true hq
      have hp := pnum_pput 80 4 k (ptext 0 7 f.value.data.toList ++ t) (by omega) (by omega) (by omega) (by omega) h16
      obtain ⟨x, r, he, hx⟩ := pput_head 80 4 k (by omega) (by omega) (by omega) (by omega) (by omega)
      have hx := nat_head hx 5 (by decide)
      rw [List.append_assoc]
      rw [he] at hp ⊢
      rw [List.cons_append] at hp ⊢
      simp only [Nat.reducePow] at hx
      rw [pln.eq_2]
      rw [if_neg (by omega), if_pos hx, hp]
      simp only [hpv, hq]
    · have hp := ptxt_ptext 32 3 f.name (ptext 0 7 f.value.data.toList ++ t) (by omega) (by omega) (by omega) (by omega) (by omega)
      have hc : pclr 32 3 = 32 := by decide
      obtain ⟨x, r, he, hx⟩ := pput_head 32 3 f.name.data.toList.length (by omega) (by omega) (by omega) (by omega) (by omega)
      have hx := nat_head hx 4 (by decide)
      rw [List.append_assoc]
      unfold ptext at hp ⊢
      rw [hc, he] at hp ⊢
      simp only [List.cons_append, Nat.reducePow] at hp hx ⊢
      rw [pln.eq_2]
      unfold ptext at hpv
      rw [if_neg (by omega), if_neg (by omega), if_pos (by omega), hp]
      simp only [hf.1]
      rw [if_neg (by simp), hpv]
theorem fline_pos (f : Fd) : 1 ≤ (fline f).length := by
  unfold fline
  split
  · exact pput_pos _ _ _
  · rw [List.length_append]; unfold fhead
    split
    · have := pput_pos 80 4 (‹Nat› : Int); omega
    · unfold ptext; rw [List.length_append]; have := pput_pos (pclr 32 3) 3 f.name.data.toList.length; omega
theorem fgl_lines : ∀ (fs : List Fd) (n : Nat) (u : List UInt8) (acc : List Fd), (∀ f ∈ fs, fok f = true ∧ f.value.size ≤ 400) → acc.length + fs.length ≤ 16 →
    fgl (n + fs.length) (flines fs ++ u) acc = fgl n u (acc ++ fs)
  | [], n, u, acc, _, _ => by simp [flines]
  | f :: fs, n, u, acc, h, hl => by
    have hp := pln_fline f (flines fs ++ u) (h f (by simp)).1 (h f (by simp)).2
    have e : flines (f :: fs) ++ u = fline f ++ (flines fs ++ u) := by simp [flines]
    rw [e]
    have hpos := fline_pos f
    simp only [List.length_cons] at hl
    cases hq : fline f with
    | nil => rw [hq] at hpos; simp at hpos
    | cons x r =>
      rw [hq] at hp
      rw [List.cons_append] at hp ⊢
      rw [show n + (f :: fs).length = (n + fs.length) + 1 from rfl, fgl_cons, if_neg (by omega), hp, if_neg (by simp)]
      rw [fgl_lines fs n u (acc ++ [f]) (fun g hg => h g (by simp [hg])) (by rw [List.length_append]; simp only [List.length_cons, List.length_nil]; omega)]
      rw [List.append_assoc]; rfl
theorem fget_flines (fs : List Fd) (h : ∀ f ∈ fs, fok f = true ∧ f.value.size ≤ 400) (hl : fs.length ≤ 16) : fget (0 :: 0 :: flines fs) = (fs, 0) := by
  have := fgl_lines fs (17 - fs.length) [] [] h (by simpa using hl)
  rw [show 17 - fs.length + fs.length = 17 by omega, List.append_nil, fgl_nil] at this
  unfold fget
  rw [if_neg (by simp), if_neg (by simp)]
  exact this
theorem fput_ok (fs : List Fd) (h : ∀ f ∈ fs, fok f = true ∧ f.value.size ≤ 400) (hl : fs.length ≤ 16) : fput fs = (0 :: 0 :: flines fs, 0) := by
  unfold fput
  rw [if_neg, if_pos]
  · rw [List.all_eq_true]; exact fun f hf => (h f hf).1
  · rw [Bool.or_eq_true, decide_eq_true_eq, List.any_eq_true]
    rintro (h1 | ⟨f, hf, h2⟩)
    · omega
    · have := (h f hf).2
      have := of_decide_eq_true h2
      omega
theorem flines_append (fs gs : List Fd) : flines (fs ++ gs) = flines fs ++ flines gs := by simp [flines]
end Go.Proofs.YtdldipkbknhhoaaDoor

/- letter: what is laid is read as it was: in plain Lean. -/
namespace Go.Proofs.YtdldipkbknhhoaaDoor
open Go.RowKit

theorem fput_err (fs : List Fd) (h : (fput fs).2 ≠ 0) : (fput fs).1 = [] := by
  unfold fput at h ⊢
  split
  · rfl
  · rename_i h1
    rw [if_neg h1] at h
    split
    · rename_i h2; rw [if_pos h2] at h; exact absurd rfl h
    · rfl
theorem fput_inv (fs : List Fd) (h : (fput fs).2 = 0) : fput fs = (0 :: 0 :: flines fs, 0) ∧ fs.length ≤ 16 ∧ ∀ f ∈ fs, fok f = true ∧ f.value.size ≤ 400 := by
  unfold fput at h ⊢
  split
  · rename_i h1; rw [if_pos h1] at h; simp at h
  · rename_i h1
    rw [if_neg h1] at h
    split
    · rename_i h2
      simp only [Bool.or_eq_true, decide_eq_true_eq, List.any_eq_true, not_or, not_exists, not_and] at h1
      exact ⟨rfl, by omega, fun f hf => ⟨List.all_eq_true.1 h2 f hf, by have := h1.2 f hf; omega⟩⟩
    · rename_i h2; rw [if_neg h2] at h; simp at h
theorem fget_fput (fs : List Fd) (h : (fput fs).2 = 0) : fget (fput fs).1 = (fs, 0) := by
  obtain ⟨h1, h2, h3⟩ := fput_inv fs h
  rw [h1]
  exact fget_flines fs h3 h2
/-- A part that is laid is taken as it was. -/
theorem lrd_ltpart (kind : Int) (d t : List UInt8) (h0 : 0 ≤ kind) (hk : kind ≤ 63) (hd : d.length ≤ 1000000) : lrd (ltpart kind d ++ t) = some (kind, d, t) := by
  have e1 : vget (ltpart kind d ++ t) = (kind, ((vput kind).length : Int), 0) := by
    unfold ltpart
    rw [List.append_assoc]
    exact vget_vput kind _ h0 (by omega)
  have e2 : (ltpart kind d ++ t).drop (vput kind).length = vput (d.length : Int) ++ (d ++ t) := by
    unfold ltpart
    rw [List.append_assoc, List.drop_left, List.append_assoc]
  have e3 : vget (vput (d.length : Int) ++ (d ++ t)) = ((d.length : Int), ((vput (d.length : Int)).length : Int), 0) := vget_vput _ _ (by omega) (by omega)
  have e4 : (ltpart kind d ++ t).length = (vput kind).length + ((vput (d.length : Int)).length + (d.length + t.length)) := by
    unfold ltpart
    simp only [List.length_append]
    omega
  have e5 : (ltpart kind d ++ t).drop ((vput kind).length + (vput (d.length : Int)).length) = d ++ t := by
    rw [← List.drop_drop, e2, List.drop_left]
  have e6 : (ltpart kind d ++ t).drop ((vput kind).length + (vput (d.length : Int)).length + d.length) = t := by
    rw [← List.drop_drop, e5, List.drop_left]
  unfold lrd
  rw [e1]
  simp only [Int.toNat_natCast]
  rw [e2, e3]
  simp only [Int.toNat_natCast, ne_eq, not_true_eq_false, if_false, false_or]
  rw [if_neg (by omega), e5, e6, List.take_left]
theorem zpads_cons (j : Nat) (js : List Nat) : zpads (j :: js) = zpart j ++ zpads js := rfl
theorem ltpart_pos (kind : Int) (d : List UInt8) (h : kind ≤ 63) : ltpart kind d ≠ [] := by
  unfold ltpart
  intro e
  have h1 : (vput kind).length = 0 := by rw [(List.append_eq_nil_iff.1 e).1]; rfl
  rw [vput_length, vl_small (by omega)] at h1
  omega
theorem zany (j : Nat) : (List.replicate j (0 : UInt8)).any (fun x => decide (x ≠ 0)) = false := by
  rw [List.any_eq_false]
  intro x hx
  rw [List.eq_of_mem_replicate hx]
  decide
theorem lgo_pads : ∀ (js : List Nat) (f k : Nat) (bod : List UInt8), (∀ j ∈ js, j ≤ 62) → js.length ≤ f → lgo f k (zpads js) bod = some bod
  | [], f, k, bod, _, _ => lgo_nil f k bod
  | j :: js, 0, k, bod, _, h => by simp at h
  | j :: js, f + 1, k, bod, hj, h => by
    have hz : zpads (j :: js) = ltpart 33 (List.replicate j 0) ++ zpads js := rfl
    have hj0 := hj j (List.mem_cons_self ..)
    rw [hz, lgo_some (fun e => ltpart_pos 33 (List.replicate j 0) (by omega) (List.append_eq_nil_iff.1 e).1) (lrd_ltpart 33 (List.replicate j 0) (zpads js) (by omega) (by omega) (by rw [List.length_replicate]; omega)),
      if_neg (by omega), if_neg (by rw [zany]; simp)]
    exact lgo_pads js f (k + 1) bod (fun j hm => hj j (List.mem_cons_of_mem _ hm)) (by simp at h; omega)
theorem zpads_len : ∀ (js : List Nat), (∀ j ∈ js, j ≤ 62) → 2 * js.length ≤ (zpads js).length
  | [], _ => by simp
  | j :: js, h => by
    have h1 := zpads_len js (fun j hm => h j (List.mem_cons_of_mem _ hm))
    have h2 := zpart_len (h j (List.mem_cons_self ..))
    rw [zpads_cons, List.length_append, h2, List.length_cons]
    omega
theorem ltE_inv {fs : List Fd} {D : List UInt8} {b : Int} (h : ltE fs D b = 0) : bok b = true ∧ (ltplain fs D).2 = 0 ∧ (fput fs).2 = 0 := by
  unfold ltE at h
  split at h
  · simp at h
  · rename_i h1
    split at h
    · rename_i h2; exact absurd h h2
    · rename_i h2
      have h3 : (ltplain fs D).2 = 0 := Decidable.of_not_not h2
      refine ⟨by simpa using h1, h3, ?_⟩
      unfold ltplain at h3
      split at h3
      · exact h3
      · rename_i h4; exact Decidable.of_not_not h4
/-- A letter that is laid is read as it was. -/
theorem lget_put {fs : List Fd} {D : List UInt8} {b : Int} {R : List UInt8} (hD : D.length ≤ 900000) (h0 : ltE fs D b = 0) (h : LtR fs D b R) : lget R = ((fs, D), 0) := by
  obtain ⟨hb, hp, hf⟩ := ltE_inv h0
  obtain ⟨hl, js, hj, rfl⟩ := h.2 h0
  have hbd := bok_bd hb
  have hzl := zpads_len js hj
  have hjl : js.length ≤ 1023 := by
    simp only [List.length_append] at hl
    omega
  have hP : (ltplain fs D).1 = ltpart 1 (fput fs).1 ++ (if D.length = 0 then [] else ltpart 0 D) := by
    unfold ltplain
    rw [if_neg (by rw [hf]; simp)]
  rw [hP, List.append_assoc] at hl ⊢
  have hr := lrd_ltpart 1 (fput fs).1 ((if D.length = 0 then [] else ltpart 0 D) ++ zpads js) (by omega) (by omega) (by have := fput_len fs; omega)
  have hgo : lgo 1024 0 ((if D.length = 0 then [] else ltpart 0 D) ++ zpads js) [] = some D := by
    by_cases hD0 : D.length = 0
    · rw [if_pos hD0, List.nil_append, lgo_pads js _ _ _ hj (by omega), List.eq_nil_of_length_eq_zero hD0]
    · rw [if_neg hD0, lgo_some (fun e => ltpart_pos 0 D (by omega) (List.append_eq_nil_iff.1 e).1) (lrd_ltpart 0 D (zpads js) (by omega) (by omega) (by omega)), if_pos ⟨rfl, rfl⟩]
      exact lgo_pads js _ _ _ hj (by omega)
  unfold lget
  rw [hl, if_neg (by rw [hb]; simp), hr]
  simp only [ne_eq, not_true_eq_false, if_false]
  rw [hgo]
  simp only []
  rw [fget_fput fs hf]
  simp
theorem lget_bucket (l : List UInt8) (h : bok l.length = false) : lget l = (([], []), 13) := by unfold lget; rw [if_pos h]
end Go.Proofs.YtdldipkbknhhoaaDoor

/- SameBytes tells whether two slices read alike, and only draws. -/
namespace Go.Proofs.YtdldipkbknhhoaaDoor
open Go.RowKit

set_option maxHeartbeats 400000 in
theorem same_any (l m : List UInt8) (A1 A2 : Option Addr) (c1 c2 : Nat) (w : World) (h1 : Rd w A1 (bv l)) (h2 : Rd w A2 (bv m)) (hl : l.length ≤ 140737488355328) (hm : m.length ≤ 140737488355328) :
    Calls Tryd.prog 33 #[.slice A1 l.length c1, .slice A2 m.length c2] w fun e w' => e = .returned (.bool (decide (l = m))) ∧ ∃ k, w' = w.drewN k := by
  by_cases hlen : l.length = m.length
  · have hb : ((l.length : Int) != (m.length : Int)) = false := by rw [hlen]; simp
    go_enter Tryd.func33, Tryd.ntmps33
    have HL := Lib.hid hlen
    clear hlen
    go_wp2
    clear hb
    go_loopw [5] (fun i wr => ∃ k q : Nat, k ≤ l.length ∧ i = .int .i64 k ∧ wr = w.drewN q ∧ l.take k = m.take k) (fun i _ => l.length - (intOf i).toNat)
    case atStart => exact ⟨0, 0, by omega, rfl, rfl, rfl⟩
    case round =>
      obtain ⟨k, q, hk, rfl, rfl, htake⟩ := hrel
      have HT := Lib.hid htake
      clear htake
      by_cases hkl : k < l.length
      · have hkm : k < m.length := by have := HL.out; omega
        obtain ⟨b1, o1, rfl, g1⟩ := h1.at_ (k := k) (by simpa using hkl)
        obtain ⟨b2, o2, rfl, g2⟩ := h2.at_ (k := k) (by simpa using hkm)
        simp only [bv, List.getElem_map] at g1 g2
        by_cases hd : l[k] = m[k]
        · have HD := Lib.hid hd
          have hne : ((l[k].toNat : Int) != (m[k].toNat : Int)) = false := by rw [hd]; simp
          clear hd
          go_wp2
          go_quiet (fail)
          go_wp2
          go_roundw
          case rel => exact ⟨k + 1, q + nq, by omega, by go_num, rfl, by rw [List.take_succ_eq_append_getElem hkl, List.take_succ_eq_append_getElem hkm, HT.out, HD.out]⟩
          case measure => simp [intOf]; omega
        · have hne : ((l[k].toNat : Int) != (m[k].toNat : Int)) = true := by
            rw [bne_iff_ne]; intro h; exact hd (UInt8.toNat_inj.1 (by exact_mod_cast h))
          have HD := Lib.hid hd
          clear hd
          go_wp2
          go_quiet (fail)
          go_wp2
          go_ret
          refine ⟨ret_bool ?_, q + nq, by rw [World.drewN_drewN]⟩
          have := HD.out
          exact (decide_eq_false (fun e => this (by simp only [e]))).symm
      · have hkl' : k = l.length := by omega
        go_wp2
        go_ret
        refine ⟨ret_bool ?_, _, rfl⟩
        have h1 := HT.out
        have h2 := HL.out
        rw [hkl', List.take_length, h2, List.take_length] at h1
        exact (decide_eq_true h1).symm
  · have hb : ((l.length : Int) != (m.length : Int)) = true := by rw [bne_iff_ne]; omega
    have HL := Lib.hid hlen
    clear hlen
    go_enter Tryd.func33, Tryd.ntmps33
    go_wp2
    go_ret
    refine ⟨ret_bool ?_, 0, rfl⟩
    have := HL.out
    exact (decide_eq_false (fun e => this (by rw [e]))).symm
end Go.Proofs.YtdldipkbknhhoaaDoor

/- letter's laws: two messages alike; a message that is too great. -/
namespace Go.Proofs.YtdldipkbknhhoaaDoor
open Go.RowKit

theorem same_n (b : Bool) (l m : List UInt8) (n1 n2 : Nat) (e1 : l.length = n1) (e2 : m.length = n2) (A1 A2 : Option Addr) (c1 c2 : Nat) (w : World) (h1 : Rd w A1 (bv l)) (h2 : Rd w A2 (bv m)) (hl : n1 ≤ 1000000) (hm : n2 ≤ 1000000) (hb : decide (l = m) = b) :
    Calls Tryd.prog 33 #[.slice A1 n1 c1, .slice A2 n2 c2] w fun e w' => e = .returned (.bool b) ∧ Still w w' := by
  subst e1 e2
  rw [← hb]
  exact still_of (same_any l m A1 A2 c1 c2 w h1 h2 (by omega) (by omega))
set_option maxRecDepth 100000 in
set_option maxHeartbeats 2000000 in
theorem samem_n (b : Bool) (fs gs : List Fd) (D E : List UInt8) (n1 n2 m1 m2 : Nat) (e1 : fs.length = n1) (e2 : gs.length = n2) (e3 : D.length = m1) (e4 : E.length = m2) (A1 A2 B1 B2 : Option Addr) (c1 c2 d1 d2 : Nat) (w : World)
    (h1 : Rd w A1 (fdv fs)) (h2 : Rd w A2 (fdv gs)) (h3 : Rd w B1 (bv D)) (h4 : Rd w B2 (bv E)) (hn1 : n1 ≤ 1000000) (hn2 : n2 ≤ 1000000) (hm1 : m1 ≤ 1000000) (hm2 : m2 ≤ 1000000) (hb : (decide (fs = gs) && decide (D = E)) = b) :
    Calls Tryd.prog 16 #[.agg #[.slice A1 n1 c1, .slice B1 m1 d1], .agg #[.slice A2 n2 c2, .slice B2 m2 d2]] w fun e w' => e = .returned (.bool b) ∧ Below w.heap.size w w' := by
  obtain ⟨x, hx⟩ : ∃ x, decide (fs = gs) = x := ⟨_, rfl⟩
  obtain ⟨y, hy⟩ : ∃ y, decide (D = E) = y := ⟨_, rfl⟩
  rw [hx, hy] at hb
  have ba : Hid (Below w.heap.size w ((w.alloc (.cells #[.slice A1 n1 c1, .slice B1 m1 d1] 25)).alloc (.cells #[.slice A2 n2 c2, .slice B2 m2 d2] 25))) := Lib.hid (((Below.refl _ w).alloc (Nat.le_refl _) _).alloc (by simp) _)
  have CF := Lib.hid (samef_n x fs gs n1 n2 e1 e2 A1 A2 c1 c2 _ (h1.below ba.out) (h2.below ba.out) hn1 hn2 hx)
  have CB := Lib.hid (fun W (h : Below w.heap.size w W) => same_n y D E m1 m2 e3 e4 B1 B2 d1 d2 W (h3.below h) (h4.below h) hm1 hm2 hy)
  replace hb := Lib.hid hb
  clear hx hy h1 h2 h3 h4 e1 e2 e3 e4
  obtain ⟨g, hg⟩ : ∃ g, w.heap.size = g := ⟨_, rfl⟩
  have Z0 : Hid (((w.alloc (.cells #[.slice A1 n1 c1, .slice B1 m1 d1] 25)).alloc (.cells #[.slice A2 n2 c2, .slice B2 m2 d2] 25)).heap[g]? = some (.cells #[.slice A1 n1 c1, .slice B1 m1 d1] 25 (0, 0))) := Lib.hid (by
    have h0 := heap_alloc_new w (.cells #[.slice A1 n1 c1, .slice B1 m1 d1] 25)
    rw [hg] at h0
    exact heap_fr h0 ((Fr.refl NoS _).alloc _) (fun x => x))
  have Z1 : Hid (((w.alloc (.cells #[.slice A1 n1 c1, .slice B1 m1 d1] 25)).alloc (.cells #[.slice A2 n2 c2, .slice B2 m2 d2] 25)).heap[g + 1]? = some (.cells #[.slice A2 n2 c2, .slice B2 m2 d2] 25 (0, 0))) := Lib.hid (by
    have h0 := heap_alloc_new (w.alloc (.cells #[.slice A1 n1 c1, .slice B1 m1 d1] 25)) (.cells #[.slice A2 n2 c2, .slice B2 m2 d2] 25)
    rw [show ∀ o, (w.alloc o).heap.size = g + 1 from fun o => by simp [hg]] at h0
    exact h0)
  go_enter Tryd.func16, Tryd.ntmps16
  go_wp2_with fail
  try rw [hg]
  obtain ⟨W, hW⟩ : ∃ W, (w.alloc (.cells #[.slice A1 n1 c1, .slice B1 m1 d1] 25)).alloc (.cells #[.slice A2 n2 c2, .slice B2 m2 d2] 25) = W := ⟨_, rfl⟩
  rw [hW] at ba CF Z0 Z1 ⊢
  clear hW
  refine CF.out.mono ?_
  rintro e w2 ⟨rfl, s2⟩
  clear CF
  have bb := Lib.hid (ba.out.trans (s2.below.mono ba.out.size))
  cases x with
  | false =>
    go_wp2_with fail
    go_ret
    exact ⟨by rw [← hb.out]; rfl, bb.out⟩
  | true =>
    have x1 := wrote_cell (heap_fr Z0.out (s2.fr NoS) (fun x => x)) 1 _ rfl
    have y1 := wrote_cell (heap_fr Z1.out (s2.fr NoS) (fun x => x)) 1 _ rfl
    replace s2 := Lib.hid s2
    go_wp2_with fail
    refine (CB.out _ bb.out).mono ?_
    rintro e w3 ⟨rfl, s3⟩
    go_wp2_with fail
    go_ret
    exact ⟨by rw [← hb.out]; rfl, bb.out.trans (s3.below.mono bb.out.size)⟩
end Go.Proofs.YtdldipkbknhhoaaDoor

/- letter's laws: a message in a variable; the calls on it; awake. -/
namespace Go.Proofs.YtdldipkbknhhoaaDoor
open Go.RowKit

/-- A message that is lent: how it reads. -/
structure MR (w : World) (fs : List Fd) (D : List UInt8) (A : Option Addr) (n : Nat) (B : Option Addr) (m : Nat) : Prop where
  rf : Rd w A (fdv fs)
  rb : Rd w B (bv D)
  ln : fs.length = n
  lm : D.length = m
  bn : n ≤ 1000000
  bm : m ≤ 900000
  hs : ∀ f ∈ fs, f.name.size ≤ 1000000 ∧ f.value.size ≤ 1000000
/-- A message in a variable of its own. -/
structure Msg (w : World) (p : Nat) (fs : List Fd) (D : List UInt8) (A : Option Addr) (n c : Nat) (B : Option Addr) (m d : Nat) : Prop where
  row : w.heap[p]? = some (.cells #[.slice A n c, .slice B m d] 25 (0, 0))
  r : MR w fs D A n B m
section
variable {w w' : World} {p q : Nat} {fs gs : List Fd} {D E : List UInt8} {A B A' B' : Option Addr} {n c m d n' c' m' d' : Nat}
theorem MR.below (h : MR w fs D A n B m) (b : Below w.heap.size w w') : MR w' fs D A n B m := ⟨h.rf.below b, h.rb.below b, h.ln, h.lm, h.bn, h.bm, h.hs⟩
theorem Msg.below (h : Msg w p fs D A n c B m d) (b : Below w.heap.size w w') : Msg w' p fs D A n c B m d := ⟨heap_fr h.row (Fr.of_below b NoS) (fun x => x), h.r.below b⟩
theorem Msg.c0 (h : Msg w p fs D A n c B m d) : w.cell? ⟨p, 0, none⟩ = some (.slice A n c) := wrote_cell h.row 0 _ rfl
theorem Msg.c1 (h : Msg w p fs D A n c B m d) : w.cell? ⟨p, 1, none⟩ = some (.slice B m d) := wrote_cell h.row 1 _ rfl
theorem MR.alloc (h : MR w fs D A n B m) (hp : w.heap.size = p) : Msg (w.alloc (.cells #[.slice A n c, .slice B m d] 25)) p fs D A n c B m d := by
  subst hp
  exact ⟨heap_alloc_new w _, h.below ((Below.refl _ w).alloc (Nat.le_refl _) _)⟩
/-- What Put answers: where what is wrong is known. -/
def PutTo (w : World) (fs : List Fd) (D : List UInt8) (b E : Int) (e : Ending) (w' : World) : Prop :=
  ∃ R X k x, e = .returned (.tuple #[.slice X k x, .int .i64 E]) ∧ R.length = k ∧ LtR fs D b R ∧ Rd w' X (bv R) ∧ k ≤ x ∧ x ≤ 9223372036854775807 ∧ k ≤ 1024 ∧ Below w.heap.size w w'
theorem MR.put (h : MR w fs D A n B m) (hb : BK w) (b e : Int) (he : ltE fs D b = e) : Calls Tryd.prog 10 #[.agg #[.slice A n c, .slice B m d], .int .i64 b] w (PutTo w fs D b e) := by
  refine (ltput_any fs D b A B n c m d w hb h.ln h.lm h.rf h.rb h.bn h.bm h.hs).mono ?_
  rintro e' w' ⟨R, X, x, he', hR, ho, hbl⟩
  have hc := RetS.cap ho
  refine ⟨R, X, R.length, x, by rw [← he]; exact he', rfl, hR, Rd.of_own ho, hc.1, hc.2, ?_, hbl⟩
  by_cases h0 : ltE fs D b = 0
  · have h1 := (hR.2 h0).1
    have h2 := bok_bd (ltE_inv h0).1
    omega
  · rw [hR.1 h0]; simp
theorem MR.fits (h : MR w fs D A n B m) (hb : BK w) (v : Int) (hv : ltleast fs D = v) : Calls Tryd.prog 11 #[.agg #[.slice A n c, .slice B m d]] w fun e w' => e = .returned (.int .i64 v) ∧ Below w.heap.size w w' := by
  rw [← hv]
  exact ltleast_any fs D A B n c m d w hb h.ln h.lm h.rf h.rb h.bn h.bm h.hs
theorem MR.same (h : MR w fs D A n B m) (k : MR w gs E A' n' B' m') (b : Bool) (hb : (decide (fs = gs) && decide (D = E)) = b) : Calls Tryd.prog 16 #[.agg #[.slice A n c, .slice B m d], .agg #[.slice A' n' c', .slice B' m' d']] w fun e w' => e = .returned (.bool b) ∧ Below w.heap.size w w' :=
  samem_n b fs gs D E n n' m m' h.ln k.ln h.lm k.lm A A' B B' c c' d d' w h.rf k.rf h.rb k.rb h.bn k.bn (by have := h.bm; omega) (by have := k.bm; omega) hb
end
/-- What Get answers, where it is known. -/
def GetTo (w : World) (fs : List Fd) (D : List UInt8) (E : Int) (e : Ending) (w' : World) : Prop :=
  ∃ A c B d, e = .returned (.tuple #[.agg #[.slice A fs.length c, .slice B D.length d], .int .i64 E]) ∧ Rd w' A (fdv fs) ∧ Rd w' B (bv D) ∧ Below w.heap.size w w'
theorem get_to (l : List UInt8) (A : Option Addr) (n c : Nat) (w : World) (hbk : BK w) (hn : l.length = n) (hr : Rd w A (bv l)) (hc : n ≤ c) (hcc : c ≤ 9223372036854775807) (hl : n ≤ 1000000) (fs : List Fd) (D : List UInt8) (E : Int) (h : lget l = ((fs, D), E)) :
    Calls Tryd.prog 14 #[.slice A n c] w (GetTo w fs D E) := by
  refine (ltget_any l A n c w hbk hn hr hc hcc hl).mono ?_
  rw [h]
  rintro e w' ⟨Af, cf, Ab, cb, he, ho, ho2, hb⟩
  exact ⟨Af, cf, Ab, cb, he, Rd.of_ownS ho, Rd.of_own ho2, hb⟩

def awF : List Fd := [⟨⟨#[97]⟩, ⟨#[98]⟩⟩]
def awD : List UInt8 := [104, 105]
theorem aw_256 : ltE awF awD 256 = 0 := by decide +kernel
theorem aw_100 : ltE awF awD 100 = 13 := by decide +kernel
theorem aw_least : ltleast awF awD = 256 := by decide +kernel
theorem aw_512 : bok 512 = true := by decide +kernel
theorem awF_hs : ∀ f ∈ awF, f.name.size ≤ 1000000 ∧ f.value.size ≤ 1000000 := by
  intro f hf
  rw [awF, List.mem_singleton] at hf
  subst hf
  decide
set_option maxRecDepth 100000 in
set_option maxHeartbeats 4000000 in
theorem awake_any (w : World) (hbk : BK w) :
    Calls Tryd.prog 8 #[] w fun e w' => e = .returned (.bool true) ∧ Below w.heap.size w w' := by
  obtain ⟨g, hg⟩ : ∃ g, w.heap.size = g := ⟨_, rfl⟩
  obtain ⟨wa, hwa⟩ : ∃ W, w.alloc (.cells #[.string ⟨#[97]⟩, .string ⟨#[98]⟩] 47) = W := ⟨_, rfl⟩
  have hsa : wa.heap.size = g + 1 := by rw [← hwa, ← hg]; simp
  have kc := Lib.run_convert_bytes_const (P := Tryd.prog) wa 23 5 #[.int .u8 104, .int .u8 105] 2 2 Tryd.underlying23 Tryd.underlying5
  rw [hsa] at kc
  obtain ⟨W1, hW1⟩ : ∃ W, wa.alloc (.cells #[.int .u8 104, .int .u8 105] 5 (2, 3)) = W := ⟨_, rfl⟩
  simp only [List.size_toArray, List.length_cons, List.length_nil, Nat.zero_add, Nat.reduceAdd, hW1] at kc
  have ba : Below w.heap.size w wa := by rw [← hwa]; exact (Below.refl _ w).alloc (Nat.le_refl _) _
  have b1 : Below w.heap.size w W1 := by rw [← hW1]; exact ba.alloc ba.size _
  have hs1 : W1.heap.size = g + 2 := by rw [← hW1]; simp [hsa]
  have M0 : MR W1 awF awD (some ⟨g, 0, none⟩) 1 (some ⟨g + 1, 0, none⟩) 2 := by
    refine ⟨?_, ?_, rfl, rfl, by omega, by omega, awF_hs⟩
    · have h1 : Rd wa (some ⟨g, 0, none⟩) (fdv awF) := by rw [← hwa, ← hg]; exact Rd.fresh w (fdv awF) 47
      rw [← hW1]
      exact h1.alloc _
    · have h1 := Rd.fresh_mark wa (bv awD) 5 (2, 3)
      rw [hsa] at h1
      rw [← hW1]
      exact h1
  obtain ⟨W2, hW2⟩ : ∃ W, W1.alloc (.cells #[.slice (some ⟨g, 0, none⟩) 1 1, .slice (some ⟨g + 1, 0, none⟩) 2 2] 25) = W := ⟨_, rfl⟩
  have M : Hid (Msg W2 (g + 2) awF awD (some ⟨g, 0, none⟩) 1 1 (some ⟨g + 1, 0, none⟩) 2 2) := Lib.hid (by rw [← hW2]; exact M0.alloc hs1)
  have b2 : Hid (Below w.heap.size w W2) := Lib.hid (by rw [← hW2]; exact b1.alloc b1.size _)
  have hs2 : Hid (W2.heap.size = g + 3) := Lib.hid (by rw [← hW2]; simp [hs1])
  clear M0 b1 ba
  replace hwa := Lib.hid hwa
  replace hW1 := Lib.hid hW1
  replace hsa := Lib.hid hsa
  replace hs1 := Lib.hid hs1
  replace hW2 := Lib.hid hW2
  have x0 := M.out.c0
  have x1 := M.out.c1
  go_enter Tryd.func8, Tryd.ntmps8
  go_wp2_with fail
  try rw [hwa.out]
  try rw [hg]
  try rw [kc]
  go_wp2_with fail
  rw [hW2.out, hs1.out]
  have hbk2 : Hid (BK W2) := Lib.hid (hbk.fr (Fr.of_below b2.out NoS) (fun x => x))
  refine (M.out.r.put hbk2.out 256 0 aw_256).mono ?_
  rintro e w3 ⟨R, X, k, x, rfl, hk, hR, hX, hkx, hxx, hk2, b3⟩
  have hk256 : k = 256 := by have := (hR.2 aw_256).1; omega
  have hget := Lib.hid (lget_put (by decide) aw_256 hR)
  subst hk256
  replace M := Lib.hid (M.out.below b3)
  replace hbk2 := Lib.hid (hbk2.out.below b3)
  replace b2 := Lib.hid (b2.out.trans (b3.mono b2.out.size))
  have hlt3 : Hid (g + 3 ≤ w3.heap.size) := Lib.hid (by have := b3.size; have := hs2.out; omega)
  replace hk := Lib.hid hk
  replace hX := Lib.hid hX
  clear hR b3 hs2 hs1 hwa hsa hW1 hW2 kc
  go_wp2_with fail
  refine (get_to R X 256 x w3 hbk2.out hk.out hX.out hkx hxx (by omega) awF awD 0 hget.out).mono ?_
  rintro e w4 ⟨Y, y, Z, z, rfl, hY, hZ, b4⟩
  have M4 : MR w4 awF awD Y 1 Z 2 := ⟨hY, hZ, rfl, rfl, by omega, by omega, awF_hs⟩
  replace M := Lib.hid (M.out.below b4)
  replace hbk2 := Lib.hid (hbk2.out.below b4)
  replace b2 := Lib.hid (b2.out.trans (b4.mono b2.out.size))
  replace hlt3 := Lib.hid (Nat.le_trans hlt3.out b4.size)
  simp only [awF, awD, List.length_cons, List.length_nil, Nat.zero_add, Nat.reduceAdd]
  obtain ⟨q, hq⟩ : ∃ q, w4.heap.size = q := ⟨_, rfl⟩
  obtain ⟨w5, hw5⟩ : ∃ W, w4.alloc (.cells #[.slice Y 1 y, .slice Z 2 z] 25) = W := ⟨_, rfl⟩
  have b5 : Below w4.heap.size w4 w5 := by rw [← hw5]; exact (Below.refl _ w4).alloc (Nat.le_refl _) _
  have N5 : Hid (Msg w5 q awF awD Y 1 y Z 2 z) := Lib.hid (by rw [← hw5]; exact M4.alloc hq)
  replace M := Lib.hid (M.out.below b5)
  replace hbk2 := Lib.hid (hbk2.out.below b5)
  replace b2 := Lib.hid (b2.out.trans (b5.mono b2.out.size))
  have x0' := M.out.c0
  have x1' := M.out.c1
  rw [← hw5] at x0' x1'
  clear M4 hY hZ b4 b5 hX hk hkx hxx hget
  replace hw5 := Lib.hid hw5
  clear x0 x1
  go_wp2_with fail
  rw [hw5.out]
  refine (M.out.r.put hbk2.out 100 13 aw_100).mono ?_
  rintro e w6 ⟨R6, X6, k6, x6, rfl, hk6, hR6, hX6, hkx6, hxx6, hk26, b6⟩
  replace M := Lib.hid (M.out.below b6)
  replace N5 := Lib.hid (N5.out.below b6)
  replace hbk2 := Lib.hid (hbk2.out.below b6)
  replace b2 := Lib.hid (b2.out.trans (b6.mono b2.out.size))
  clear hw5 hq hk6 hR6 hX6 x0' x1' hlt3 b6 hxx6 hkx6 hk26
  have m0 := M.out.c0
  have m1 := M.out.c1
  have n0 := N5.out.c0
  have n1 := N5.out.c1
  go_wp2_with fail
  refine (M.out.r.same N5.out.r true (by simp)).mono ?_
  rintro e w7 ⟨rfl, b7⟩
  replace M := Lib.hid (M.out.below b7)
  replace hbk2 := Lib.hid (hbk2.out.below b7)
  replace b2 := Lib.hid (b2.out.trans (b7.mono b2.out.size))
  clear m0 m1 n0 n1 b7 N5
  have m0 := M.out.c0
  have m1 := M.out.c1
  go_wp2_with fail
  have CB := bucket_any 512 w7 hbk2.out
  rw [aw_512] at CB
  refine CB.mono ?_
  rintro e w8 ⟨rfl, rfl⟩
  clear CB
  go_wp2_with fail
  refine (M.out.r.fits hbk2.out 256 aw_least).mono ?_
  rintro e w9 ⟨rfl, b9⟩
  replace b2 := Lib.hid (b2.out.trans (b9.mono b2.out.size))
  clear b9 m0 m1
  go_wp2_with fail
  go_ret
  exact ⟨rfl, b2.out⟩
end Go.Proofs.YtdldipkbknhhoaaDoor

/- The document's fields: line. (Printed by gen_fsD.py.) -/
namespace Go.Proofs.YtdldipkbknhhoaaDoor
open Go.RowKit

/-- What line keeps: the block of its result, that of its field, the bytes. -/
structure RL (w0 W : World) (g q : Nat) (A : Option Addr) (l : List UInt8) (x y : ByteArray) : Prop where
  res : HasRow W g 47 #[.string ⟨#[]⟩, .string ⟨#[]⟩]
  fld : HasRow W q 47 #[.string x, .string y]
  rd : Rd W A (bv l)
  bel : Below w0.heap.size w0 W
  lt : g < q
  ge : w0.heap.size ≤ g
  far : ∀ a, A = some a → a.block < w0.heap.size
section
variable {w0 W : World} {g q : Nat} {A : Option Addr} {l : List UInt8} {x y : ByteArray}
theorem below_setQ {w0 W : World} {k i : Nat} (b : Below w0.heap.size w0 W) (h : w0.heap.size ≤ k) (hlt : w0.heap.size ≤ W.heap.size) (v : Value) : Below w0.heap.size w0 (W.setCell ⟨k, i, none⟩ v) :=
  Fr.under b hlt ((Fr.refl (fun j => j = k) W).setCell (p := ⟨k, i, none⟩) (fun _ => rfl) v) (fun j hj _ => by omega)
theorem RL.fin (h : RL w0 W g q A l x y) (u v : Value) : HasRow ((W.setCell ⟨g, 0, none⟩ u).setCell ⟨g, 1, none⟩ v) g 47 #[u, v] ∧ Below w0.heap.size w0 ((W.setCell ⟨g, 0, none⟩ u).setCell ⟨g, 1, none⟩ v) :=
  ⟨h.res.set2 u v, below_setQ (below_setQ h.bel h.ge h.bel.size u) h.ge (below_setQ (k := g) (i := 0) h.bel h.ge h.bel.size u).size v⟩
theorem RL.put0 (h : RL w0 W g q A l x y) (a : ByteArray) : RL w0 (W.setCell ⟨q, 0, none⟩ (.string a)) g q A l a y :=
  ⟨h.res.other (by have := h.lt; omega) 0 _, heap_setCell_same W q 0 _ _ (.string a) h.fld, h.rd.fr (frp_cell W q 0 (.string a)) (fun _ b hb e => by have := h.far b hb; have := h.lt; have := h.ge; omega), below_setQ h.bel (by have := h.lt; have := h.ge; omega) h.bel.size _, h.lt, h.ge, h.far⟩
theorem RL.put1 (h : RL w0 W g q A l x y) (a : ByteArray) : RL w0 (W.setCell ⟨q, 1, none⟩ (.string a)) g q A l x a :=
  ⟨h.res.other (by have := h.lt; omega) 1 _, heap_setCell_same W q 1 _ _ (.string a) h.fld, h.rd.fr (frp_cell W q 1 (.string a)) (fun _ b hb e => by have := h.far b hb; have := h.lt; have := h.ge; omega), below_setQ h.bel (by have := h.lt; have := h.ge; omega) h.bel.size _, h.lt, h.ge, h.far⟩
end

set_option maxRecDepth 100000 in
set_option maxHeartbeats 8000000 in
theorem rline_any (x : UInt8) (r : List UInt8) (A : Option Addr) (n c : Nat) (w : World) (hr : Rd w A (bv (x :: r))) (hn : (x :: r).length = n) (hnc : n ≤ c) (hcc : c ≤ 9223372036854775807) (hsm : n ≤ 1000000) (fa fb : ByteArray) (lg er : Int) (hp : rln (x :: r) = (⟨fa, fb⟩, lg, er)) :
    Calls Tryd.prog 42 #[.slice A n c] w fun en w' => en = .returned (.tuple #[.agg #[.string fa, .string fb], .int .i64 lg, .int .i64 er]) ∧ Below w.heap.size w w' := by
  obtain ⟨bl, off, rfl, h0⟩ := hr.at_ (k := 0) (by simp)
  simp only [bv, List.map_cons, List.getElem_cons_zero, Nat.add_zero] at h0
  have hbl := World.block_lt_of_cell? w _ h0
  simp only at hbl
  have hn1 : 0 < n := by rw [← hn]; simp
  have hn1I : (0 : Int) < (n : Int) := by omega
  obtain ⟨g, hg⟩ : ∃ g, w.heap.size = g := ⟨_, rfl⟩
  have hr2 := Lib.hid hr
  replace h0 := Lib.hid h0
  clear hr
  rw [rln] at hp
  replace hp := Lib.hid hp
  go_enter Tryd.func42, Tryd.ntmps42
  go_wp2_with fail
  try rw [hg]
  have R1 := HasRow.new w 47 #[.string ⟨#[]⟩, .string ⟨#[]⟩]
  rw [hg] at R1
  have B1 := (Below.refl _ w).alloc (Nat.le_refl _) (.cells #[.string ⟨#[]⟩, .string ⟨#[]⟩] 47)
  have S1 := R1.lt
  refine (rfixed_far _).mono ?_
  rintro en w1 ⟨gF, rfl, hgF, rdF, b1⟩
  have S2 := b1.size
  have R2 := R1.below b1
  have B2 := B1.trans (b1.mono B1.size)
  obtain ⟨q, hq⟩ : ∃ q, w1.heap.size = q := ⟨_, rfl⟩
  have hgq : g < q := by omega
  obtain ⟨W1, hW1⟩ : ∃ W1, w1.alloc (.cells #[.string ⟨#[]⟩, .string ⟨#[]⟩] 47) = W1 := ⟨_, rfl⟩
  have R3 := HasRow.new w1 47 #[.string ⟨#[]⟩, .string ⟨#[]⟩]
  rw [hq] at R3
  have k0 := R3.cell 0 _ rfl
  have k1 := R3.cell 1 _ rfl
  have kz0 := R3.frozen 0
  have kz1 := R3.frozen 1
  have B3 := B2.alloc B2.size (.cells #[.string ⟨#[]⟩, .string ⟨#[]⟩] 47)
  have F3 : Fr (fun k => k = q) (w1.alloc (.cells #[.string ⟨#[]⟩, .string ⟨#[]⟩] 47)) W1 := by rw [← hW1]; exact Fr.refl _ _
  have HR : Hid (RL w W1 g q (some ⟨bl, off, none⟩) (x :: r) ⟨#[]⟩ ⟨#[]⟩) := Lib.hid ⟨(R2.alloc _).fr F3 (by omega), by rw [← hW1]; exact R3, (hr2.out.below B3).fr F3 (fun _ a ha e => by injection ha with ha; subst ha; simp only at e; omega), Fr.under B3 B3.size F3 (fun k hk _ => by omega), hgq, by omega, fun a ha => by injection ha with ha; subst ha; exact hbl⟩
  have HF : Hid (∀ (N : Nat) (a b : ByteArray), fixed[N]? = some (⟨a, b⟩ : Fd) → W1.cell? ⟨gF, N * 2, none⟩ = some (.string a) ∧ W1.cell? ⟨gF, N * 2 + 1, none⟩ = some (.string b)) := Lib.hid (fun N a b h => by
    obtain ⟨h1, h2⟩ := rdF N a b h
    have l1 := World.block_lt_of_cell? w1 _ h1
    have Fa : Fr (fun k => k = q) w1 W1 := ((Fr.refl (fun k => k = q) w1).alloc _).trans F3
    exact ⟨(Fa.cell (World.block_lt_of_cell? w1 _ h1) (by simp only at l1 ⊢; omega)).trans h1, (Fa.cell (World.block_lt_of_cell? w1 _ h2) (by simp only at l1 ⊢; omega)).trans h2⟩)
  have hx : W1.cell? ⟨bl, off, none⟩ = some (.int .u8 x.toNat) := by rw [HR.out.bel.cell (p := ⟨bl, off, none⟩) hbl]; exact h0.out
  replace hq := Lib.hid hq
  replace hW1 := Lib.hid hW1
  replace hg := Lib.hid hg
  clear k0 k1 kz0 kz1
  clear R1 B1 S1 hgF rdF b1 S2 R2 B2 R3 B3 F3
  go_upto_block 0 with fail
  rw [hq.out, hW1.out]
  obtain ⟨X, hX⟩ : ∃ X, x.toNat = X := ⟨_, rfl⟩
  rw [hX] at hx
  have hX256 : X < 256 := by rw [← hX]; exact x.toNat_lt
  replace hp := hp.out
  rw [hX] at hp
  replace hX := Lib.hid hX
  go_cut [7] from 8 to 109 (fun y wx => ∃ (k : Nat) (a : ByteArray), y = .int .i64 k ∧ k ≤ n ∧ Hid (RL w wx g q (some ⟨bl, off, none⟩) (x :: r) a ⟨#[]⟩) ∧ Hid (rtail (x :: r) a k = (⟨fa, fb⟩, lg, er)))
  case first =>
    have f0 := HR.out.fld.cell 0 _ rfl
    have f1 := HR.out.fld.cell 1 _ rfl
    have z0 := HR.out.fld.frozen 0
    have z1 := HR.out.fld.frozen 1
    have g0 := HR.out.res.cell 0 _ rfl
    have g1 := HR.out.res.cell 1 _ rfl
    have gz0 := HR.out.res.frozen 0
    have gz1 := HR.out.res.frozen 1
    by_cases c1 : X / 64 = 3
    · rw [if_pos c1] at hp
      have t1 : decide ((192 : Int) ≤ (X : Int)) = true := decide_eq_true (by omega)
      have t1' : decide (192 ≤ X) = true := decide_eq_true (by omega)
      clear c1
      have PG := rpget_any (x :: r) 6 (some ⟨bl, off, none⟩) c W1 (by omega) (by omega) HR.out.rd (by rw [hn]; omega)
      have hbd := pget_bd 6 (x :: r) (by omega) (by omega)
      rw [hn] at PG hbd
      unfold rnum at hp
      obtain ⟨N, hN⟩ : ∃ N, (pget 6 (x :: r)).1 = N := ⟨_, rfl⟩
      obtain ⟨M, hM⟩ : ∃ M, (pget 6 (x :: r)).2.1 = M := ⟨_, rfl⟩
      obtain ⟨E, hE⟩ : ∃ E, (pget 6 (x :: r)).2.2 = E := ⟨_, rfl⟩
      unfold ptup at PG
      rw [hN, hM, hE] at PG hp hbd
      replace hN := Lib.hid hN
      replace hM := Lib.hid hM
      replace hE := Lib.hid hE
      replace PG := Lib.hid PG
      by_cases hE0 : E = 0
      · obtain ⟨n0, n1, m1, m2⟩ := hbd hE0
        subst hE0
        simp only [ne_eq, not_true_eq_false, if_false] at hp
        by_cases h16 : 16 ≤ N
        · rw [if_pos h16] at hp
          simp only [ne_eq, show ¬ ((5 : Int) = 0) by omega, not_false_eq_true, if_true] at hp
          simp only [Prod.mk.injEq, Fd.mk.injEq, fdz] at hp
          obtain ⟨⟨rfl, rfl⟩, rfl, rfl⟩ := hp
          have d1 : decide (16 ≤ N) = true := decide_eq_true h16
          go_wp2_with fail
          refine PG.out.mono ?_
          rintro en w3 ⟨rfl, rfl⟩
          have HO := Lib.hid (HR.out.fin (.string ⟨#[]⟩) (.string ⟨#[]⟩))
          go_wp2_with fail
          refine bodyPost_ret (v := .tuple #[.agg #[.string ⟨#[]⟩, .string ⟨#[]⟩], .int .i64 0, .int .i64 5]) (res_ctt rfl _ _ ⟨g, 0, none⟩ _ rfl (loadF HO.out.1) rfl rfl) rfl ?_
          exact ⟨rfl, HO.out.2⟩
        · rw [if_neg h16] at hp
          simp only [ne_eq, not_true_eq_false, if_false] at hp
          obtain ⟨N, rfl⟩ : ∃ N' : Nat, N = N' := ⟨N.toNat, by omega⟩
          obtain ⟨M, rfl⟩ : ∃ M' : Nat, M = M' := ⟨M.toNat, by omega⟩
          simp only [Int.toNat_natCast] at hp
          have hN16 : N < 16 := by omega
          have d1 : decide (16 ≤ (N : Int)) = false := decide_eq_false h16
          have d1' : decide (16 ≤ N) = false := decide_eq_false (by omega)
          have hN16I : (N : Int) < 16 := by omega
          obtain ⟨⟨na, nb⟩, hf⟩ : ∃ f, fixed.getD N fdz = f := ⟨_, rfl⟩
          have hfx : fixed[N]? = some ⟨na, nb⟩ := by
            rw [List.getD_eq_getElem?_getD] at hf
            rw [List.getElem?_eq_getElem (show N < fixed.length from hN16)] at hf ⊢
            rw [← hf]; rfl
          rw [hf] at hp
          obtain ⟨y0, y1⟩ := HF.out N na nb hfx
          replace hf := Lib.hid hf
          replace hfx := Lib.hid hfx
          simp only [Prod.mk.injEq, Fd.mk.injEq] at hp
          obtain ⟨⟨rfl, rfl⟩, rfl, rfl⟩ := hp
          go_wp2_with fail
          refine PG.out.mono ?_
          rintro en w3 ⟨rfl, rfl⟩
          have HO := Lib.hid (HR.out.fin (.string na) (.string nb))
          go_wp2_with fail
          refine bodyPost_ret (v := .tuple #[.agg #[.string na, .string nb], .int .i64 M, .int .i64 0]) (res_ctt rfl _ _ ⟨g, 0, none⟩ _ rfl (loadF HO.out.1) rfl rfl) rfl ?_
          exact ⟨rfl, HO.out.2⟩
      · clear hbd
        rw [if_pos hE0] at hp
        simp only [ne_eq, hE0, not_false_eq_true, if_true] at hp
        simp only [Prod.mk.injEq, Fd.mk.injEq, fdz] at hp
        obtain ⟨⟨rfl, rfl⟩, rfl, rfl⟩ := hp
        have d1 : (E == 0) = false := by rw [beq_eq_false_iff_ne]; exact hE0
        have d1' : (E != 0) = true := by rw [bne_iff_ne]; exact hE0
        go_wp2_with fail
        refine PG.out.mono ?_
        rintro en w3 ⟨rfl, rfl⟩
        have HO := Lib.hid (HR.out.fin (.string ⟨#[]⟩) (.string ⟨#[]⟩))
        go_wp2_with fail
        refine bodyPost_ret (v := .tuple #[.agg #[.string ⟨#[]⟩, .string ⟨#[]⟩], .int .i64 0, .int .i64 E]) (res_ctt rfl _ _ ⟨g, 0, none⟩ _ rfl (loadF HO.out.1) rfl rfl) rfl ?_
        exact ⟨rfl, HO.out.2⟩
    · rw [if_neg c1] at hp
      have t1 : decide ((192 : Int) ≤ (X : Int)) = false := decide_eq_false (by omega)
      have t1' : decide (192 ≤ X) = false := decide_eq_false (by omega)
      clear c1
      by_cases c2 : X / 16 = 5
      · rw [if_pos c2] at hp
        have t2 : ((X : Int) / 16 == 5) = true := by rw [beq_iff_eq]; omega
        clear c2
        have PG := rpget_any (x :: r) 4 (some ⟨bl, off, none⟩) c W1 (by omega) (by omega) HR.out.rd (by rw [hn]; omega)
        have hbd := pget_bd 4 (x :: r) (by omega) (by omega)
        rw [hn] at PG hbd
        unfold rnum at hp
        obtain ⟨N, hN⟩ : ∃ N, (pget 4 (x :: r)).1 = N := ⟨_, rfl⟩
        obtain ⟨M, hM⟩ : ∃ M, (pget 4 (x :: r)).2.1 = M := ⟨_, rfl⟩
        obtain ⟨E, hE⟩ : ∃ E, (pget 4 (x :: r)).2.2 = E := ⟨_, rfl⟩
        unfold ptup at PG
        rw [hN, hM, hE] at PG hp hbd
        replace hN := Lib.hid hN
        replace hM := Lib.hid hM
        replace hE := Lib.hid hE
        replace PG := Lib.hid PG
        by_cases hE0 : E = 0
        · obtain ⟨n0, n1, m1, m2⟩ := hbd hE0
          subst hE0
          simp only [ne_eq, not_true_eq_false, if_false] at hp
          by_cases h16 : 16 ≤ N
          · rw [if_pos h16] at hp
            simp only [ne_eq, show ¬ ((5 : Int) = 0) by omega, not_false_eq_true, if_true] at hp
            simp only [Prod.mk.injEq, Fd.mk.injEq, fdz] at hp
            obtain ⟨⟨rfl, rfl⟩, rfl, rfl⟩ := hp
            have d1 : decide (16 ≤ N) = true := decide_eq_true h16
            go_wp2_with fail
            refine PG.out.mono ?_
            rintro en w3 ⟨rfl, rfl⟩
            have HO := Lib.hid (HR.out.fin (.string ⟨#[]⟩) (.string ⟨#[]⟩))
            go_wp2_with fail
            refine bodyPost_ret (v := .tuple #[.agg #[.string ⟨#[]⟩, .string ⟨#[]⟩], .int .i64 0, .int .i64 5]) (res_ctt rfl _ _ ⟨g, 0, none⟩ _ rfl (loadF HO.out.1) rfl rfl) rfl ?_
            exact ⟨rfl, HO.out.2⟩
          · rw [if_neg h16] at hp
            simp only [ne_eq, not_true_eq_false, if_false] at hp
            obtain ⟨N, rfl⟩ : ∃ N' : Nat, N = N' := ⟨N.toNat, by omega⟩
            obtain ⟨M, rfl⟩ : ∃ M' : Nat, M = M' := ⟨M.toNat, by omega⟩
            simp only [Int.toNat_natCast] at hp
            have hN16 : N < 16 := by omega
            have d1 : decide (16 ≤ (N : Int)) = false := decide_eq_false h16
            have d1' : decide (16 ≤ N) = false := decide_eq_false (by omega)
            have hN16I : (N : Int) < 16 := by omega
            obtain ⟨⟨na, nb⟩, hf⟩ : ∃ f, fixed.getD N fdz = f := ⟨_, rfl⟩
            have hfx : fixed[N]? = some ⟨na, nb⟩ := by
              rw [List.getD_eq_getElem?_getD] at hf
              rw [List.getElem?_eq_getElem (show N < fixed.length from hN16)] at hf ⊢
              rw [← hf]; rfl
            rw [hf] at hp
            obtain ⟨y0, y1⟩ := HF.out N na nb hfx
            replace hf := Lib.hid hf
            replace hfx := Lib.hid hfx
            have HR2 := Lib.hid (HR.out.put0 na)
            replace hp := Lib.hid hp
            have hMn : M ≤ n := by omega
            go_wp2_with fail
            refine PG.out.mono ?_
            rintro en w3 ⟨rfl, rfl⟩
            go_wp2_with fail
            go_meet
            exact ⟨M, na, rfl, hMn, HR2, hp⟩
        · clear hbd
          rw [if_pos hE0] at hp
          simp only [ne_eq, hE0, not_false_eq_true, if_true] at hp
          simp only [Prod.mk.injEq, Fd.mk.injEq, fdz] at hp
          obtain ⟨⟨rfl, rfl⟩, rfl, rfl⟩ := hp
          have d1 : (E == 0) = false := by rw [beq_eq_false_iff_ne]; exact hE0
          have d1' : (E != 0) = true := by rw [bne_iff_ne]; exact hE0
          go_wp2_with fail
          refine PG.out.mono ?_
          rintro en w3 ⟨rfl, rfl⟩
          have HO := Lib.hid (HR.out.fin (.string ⟨#[]⟩) (.string ⟨#[]⟩))
          go_wp2_with fail
          refine bodyPost_ret (v := .tuple #[.agg #[.string ⟨#[]⟩, .string ⟨#[]⟩], .int .i64 0, .int .i64 E]) (res_ctt rfl _ _ ⟨g, 0, none⟩ _ rfl (loadF HO.out.1) rfl rfl) rfl ?_
          exact ⟨rfl, HO.out.2⟩
      · rw [if_neg c2] at hp
        have t2 : ((X : Int) / 16 == 5) = false := by rw [beq_eq_false_iff_ne]; omega
        clear c2
        by_cases c3 : X / 16 = 2
        · rw [if_pos c3] at hp
          have t3 : ((X : Int) / 16 == 2) = true := by rw [beq_iff_eq]; omega
          clear c3
          have PG := rgettext_any (x :: r) 3 (some ⟨bl, off, none⟩) c W1 (by omega) (by omega) HR.out.rd (by rw [hn]; omega) (by rw [hn]; exact hnc) hcc
          have hbd := pgettext_bd 3 (x :: r) (by omega) (by omega)
          rw [hn] at PG hbd
          obtain ⟨⟨sl, M, E⟩, ht⟩ : ∃ t, pgettext 3 (x :: r) = t := ⟨_, rfl⟩
          unfold tpgettext at PG
          rw [ht] at PG hp hbd
          simp only at PG hp hbd
          obtain ⟨s, hs⟩ : ∃ s : ByteArray, (⟨sl.toArray⟩ : ByteArray) = s := ⟨_, rfl⟩
          have hss : s.size = sl.length := by rw [← hs]; simp [ByteArray.size]
          rw [hs] at PG hp
          replace ht := Lib.hid ht
          replace hs := Lib.hid hs
          replace PG := Lib.hid PG
          by_cases hE0 : E = 0
          · subst hE0
            simp only [ne_eq, not_true_eq_false, if_false] at hp
            have NM := Lib.hid (rname_any s W1 (by omega))
            obtain ⟨V, hV⟩ : ∃ V, nameok s = V := ⟨_, rfl⟩
            rw [hV] at hp NM
            replace hV := Lib.hid hV
            cases V with
            | false =>
              rw [if_pos rfl] at hp
              simp only [Prod.mk.injEq, Fd.mk.injEq, fdz] at hp
              obtain ⟨⟨rfl, rfl⟩, rfl, rfl⟩ := hp
              clear hbd hss
              go_wp2_with fail
              refine PG.out.mono ?_
              rintro en w3 ⟨rfl, rfl⟩
              go_wp2_with fail
              refine NM.out.mono ?_
              rintro en w3 ⟨rfl, rfl⟩
              have HO := Lib.hid (HR.out.fin (.string ⟨#[]⟩) (.string ⟨#[]⟩))
              go_wp2_with fail
              refine bodyPost_ret (v := .tuple #[.agg #[.string ⟨#[]⟩, .string ⟨#[]⟩], .int .i64 0, .int .i64 5]) (res_ctt rfl _ _ ⟨g, 0, none⟩ _ rfl (loadF HO.out.1) rfl rfl) rfl ?_
              exact ⟨rfl, HO.out.2⟩
            | true =>
              rw [if_neg (by simp)] at hp
              obtain ⟨M, rfl⟩ : ∃ M' : Nat, M = M' := ⟨M.toNat, by omega⟩
              simp only [Int.toNat_natCast] at hp
              have HR2 := Lib.hid (HR.out.put0 s)
              replace hp := Lib.hid hp
              have hMn : M ≤ n := by omega
              clear hbd hss
              go_wp2_with fail
              refine PG.out.mono ?_
              rintro en w3 ⟨rfl, rfl⟩
              go_wp2_with fail
              refine NM.out.mono ?_
              rintro en w3 ⟨rfl, rfl⟩
              go_wp2_with fail
              go_meet
              exact ⟨M, s, rfl, hMn, HR2, hp⟩
          · clear hbd hss
            rw [if_pos hE0] at hp
            simp only [Prod.mk.injEq, Fd.mk.injEq, fdz] at hp
            obtain ⟨⟨rfl, rfl⟩, rfl, rfl⟩ := hp
            have d1 : (E == 0) = false := by rw [beq_eq_false_iff_ne]; exact hE0
            have d1' : (E != 0) = true := by rw [bne_iff_ne]; exact hE0
            go_wp2_with fail
            refine PG.out.mono ?_
            rintro en w3 ⟨rfl, rfl⟩
            have HO := Lib.hid (HR.out.fin (.string ⟨#[]⟩) (.string ⟨#[]⟩))
            go_wp2_with fail
            refine bodyPost_ret (v := .tuple #[.agg #[.string ⟨#[]⟩, .string ⟨#[]⟩], .int .i64 0, .int .i64 E]) (res_ctt rfl _ _ ⟨g, 0, none⟩ _ rfl (loadF HO.out.1) rfl rfl) rfl ?_
            exact ⟨rfl, HO.out.2⟩
        · rw [if_neg c3] at hp
          have t3 : ((X : Int) / 16 == 2) = false := by rw [beq_eq_false_iff_ne]; omega
          clear c3
          simp only [Prod.mk.injEq, Fd.mk.injEq, fdz] at hp
          obtain ⟨⟨rfl, rfl⟩, rfl, rfl⟩ := hp
          have HO := Lib.hid (HR.out.fin (.string ⟨#[]⟩) (.string ⟨#[]⟩))
          go_wp2_with fail
          refine bodyPost_ret (v := .tuple #[.agg #[.string ⟨#[]⟩, .string ⟨#[]⟩], .int .i64 0, .int .i64 5]) (res_ctt rfl _ _ ⟨g, 0, none⟩ _ rfl (loadF HO.out.1) rfl rfl) rfl ?_
          exact ⟨rfl, HO.out.2⟩
  case rest =>
    clear hp HF hx HR hX256
    obtain ⟨k, a, rfl, hk, HR, HP⟩ := hcut
    have f0 := HR.out.fld.cell 0 _ rfl
    have f1 := HR.out.fld.cell 1 _ rfl
    have z0 := HR.out.fld.frozen 0
    have z1 := HR.out.fld.frozen 1
    have g0 := HR.out.res.cell 0 _ rfl
    have g1 := HR.out.res.cell 1 _ rfl
    have gz0 := HR.out.res.frozen 0
    have gz1 := HR.out.res.frozen 1
    have hp := HP.out
    unfold rtail at hp
    clear HP
    obtain ⟨X2, hX, hXc⟩ := cut_l (P := Tryd.prog) Tryd.underlying23 infoB (some ⟨bl, off, none⟩) n c k hk hnc
    have rdX := hXc.bytes' HR.out.rd hn hnc
    have PG := rgettext_any ((x :: r).drop k) 7 X2 (c - k) _ (by omega) (by omega) rdX (by rw [List.length_drop, hn]; omega) (by rw [List.length_drop, hn]; omega) (by omega)
    have hbd := pgettext_bd 7 ((x :: r).drop k) (by omega) (by omega)
    rw [List.length_drop, hn] at PG hbd
    obtain ⟨n2, hn2⟩ : ∃ n2, n - k = n2 := ⟨_, rfl⟩
    obtain ⟨c2, hc2⟩ : ∃ c2, c - k = c2 := ⟨_, rfl⟩
    rw [hn2, hc2] at hX PG
    rw [hn2] at hbd
    have hn2k : n2 + k = n := by omega
    obtain ⟨⟨sl, M, E⟩, ht⟩ : ∃ t, pgettext 7 ((x :: r).drop k) = t := ⟨_, rfl⟩
    unfold tpgettext at PG
    rw [ht] at PG hp hbd
    simp only at PG hp hbd
    obtain ⟨s, hs⟩ : ∃ s : ByteArray, (⟨sl.toArray⟩ : ByteArray) = s := ⟨_, rfl⟩
    obtain ⟨sz, hsz⟩ : ∃ sz, s.size = sz := ⟨_, rfl⟩
    have hss : sl.length = sz := by rw [← hsz, ← hs]; simp [ByteArray.size]
    rw [hs] at PG hp
    rw [hss] at hp hbd
    obtain ⟨hM0, hM1, hsl⟩ := hbd
    replace ht := Lib.hid ht
    replace hs := Lib.hid hs
    replace hss := Lib.hid hss
    replace hn2 := Lib.hid hn2
    replace hc2 := Lib.hid hc2
    replace PG := Lib.hid PG
    clear rdX hXc
    by_cases hE0 : E = 0
    · subst hE0
      simp only [ne_eq, not_true_eq_false, if_false] at hp
      by_cases h400 : 400 < sz
      · rw [if_pos h400] at hp
        simp only [Prod.mk.injEq, Fd.mk.injEq, fdz] at hp
        obtain ⟨⟨rfl, rfl⟩, rfl, rfl⟩ := hp
        have d1 : decide (400 < sz) = true := decide_eq_true h400
        have d1' : decide ((400 : Int) < (sz : Int)) = true := decide_eq_true (by omega)
        go_wp2_with fail
        refine PG.out.mono ?_
        rintro en w3 ⟨rfl, rfl⟩
        have HO := Lib.hid (HR.out.fin (.string ⟨#[]⟩) (.string ⟨#[]⟩))
        go_wp2_with fail
        refine bodyPost_ret (v := .tuple #[.agg #[.string ⟨#[]⟩, .string ⟨#[]⟩], .int .i64 0, .int .i64 4]) (res_ctt rfl _ _ ⟨g, 0, none⟩ _ rfl (loadF HO.out.1) rfl rfl) rfl ?_
        exact ⟨rfl, HO.out.2⟩
      · rw [if_neg h400] at hp
        have d1 : decide (400 < sz) = false := decide_eq_false h400
        have d1' : decide ((400 : Int) < (sz : Int)) = false := decide_eq_false (by omega)
        have VM := Lib.hid (fun W => rval_any s W (by omega))
        obtain ⟨V, hV⟩ : ∃ V, valok s = V := ⟨_, rfl⟩
        rw [hV] at hp VM
        replace hV := Lib.hid hV
        cases V with
        | false =>
          rw [if_pos rfl] at hp
          simp only [Prod.mk.injEq, Fd.mk.injEq, fdz] at hp
          obtain ⟨⟨rfl, rfl⟩, rfl, rfl⟩ := hp
          go_wp2_with fail
          refine PG.out.mono ?_
          rintro en w3 ⟨rfl, rfl⟩
          go_wp2_with fail
          refine (VM.out _).mono ?_
          rintro en w3 ⟨rfl, rfl⟩
          have HO := Lib.hid (HR.out.fin (.string ⟨#[]⟩) (.string ⟨#[]⟩))
          go_wp2_with fail
          refine bodyPost_ret (v := .tuple #[.agg #[.string ⟨#[]⟩, .string ⟨#[]⟩], .int .i64 0, .int .i64 5]) (res_ctt rfl _ _ ⟨g, 0, none⟩ _ rfl (loadF HO.out.1) rfl rfl) rfl ?_
          exact ⟨rfl, HO.out.2⟩
        | true =>
          rw [if_neg (by simp)] at hp
          obtain ⟨M, rfl⟩ : ∃ M' : Nat, M = M' := ⟨M.toNat, by omega⟩
          simp only [Prod.mk.injEq, Fd.mk.injEq] at hp
          obtain ⟨⟨rfl, rfl⟩, rfl, rfl⟩ := hp
          have HR2 := Lib.hid (HR.out.put1 s)
          have u0 := HR2.out.fld.cell 0 _ rfl
          have u1 := HR2.out.fld.cell 1 _ rfl
          have ug0 := HR2.out.res.cell 0 _ rfl
          have ug1 := HR2.out.res.cell 1 _ rfl
          have ugz0 := HR2.out.res.frozen 0
          have ugz1 := HR2.out.res.frozen 1
          have HO := Lib.hid (HR2.out.fin (.string a) (.string s))
          go_wp2_with fail
          refine PG.out.mono ?_
          rintro en w3 ⟨rfl, rfl⟩
          go_wp2_with fail
          refine (VM.out _).mono ?_
          rintro en w3 ⟨rfl, rfl⟩
          go_wp2_with fail
          refine bodyPost_ret (v := .tuple #[.agg #[.string a, .string s], .int .i64 ((k : Int) + M), .int .i64 0]) (res_ctt rfl _ _ ⟨g, 0, none⟩ _ rfl (loadF HO.out.1) rfl rfl) rfl ?_
          exact ⟨rfl, HO.out.2⟩
    · rw [if_pos hE0] at hp
      simp only [Prod.mk.injEq, Fd.mk.injEq, fdz] at hp
      obtain ⟨⟨rfl, rfl⟩, rfl, rfl⟩ := hp
      have d1 : (E == 0) = false := by rw [beq_eq_false_iff_ne]; exact hE0
      have d1' : (E != 0) = true := by rw [bne_iff_ne]; exact hE0
      go_wp2_with fail
      refine PG.out.mono ?_
      rintro en w3 ⟨rfl, rfl⟩
      have HO := Lib.hid (HR.out.fin (.string ⟨#[]⟩) (.string ⟨#[]⟩))
      go_wp2_with fail
      refine bodyPost_ret (v := .tuple #[.agg #[.string ⟨#[]⟩, .string ⟨#[]⟩], .int .i64 0, .int .i64 E]) (res_ctt rfl _ _ ⟨g, 0, none⟩ _ rfl (loadF HO.out.1) rfl rfl) rfl ?_
      exact ⟨rfl, HO.out.2⟩
end Go.Proofs.YtdldipkbknhhoaaDoor

/- The document's fields: Get answers as ours. -/
namespace Go.Proofs.YtdldipkbknhhoaaDoor
open Go.RowKit

set_option maxRecDepth 100000 in
set_option maxHeartbeats 8000000 in
theorem rfget_any (l : List UInt8) (A : Option Addr) (c n : Nat) (w : World) (hn : l.length = n) (hr : Rd w A (bv l)) (hc : n ≤ c) (hcc : c ≤ 9223372036854775807) (hl : n ≤ 1000000) :
    Calls Tryd.prog 31 #[.slice A n c] w (RetG w (fget l)) := by
  rcases l with _ | ⟨x, _ | ⟨y, r⟩⟩
  · have hn0 : n = 0 := hn.symm
    subst hn0
    go_enter Tryd.func31, Tryd.ntmps31
    go_wp2_with fail
    go_ret2
    exact ⟨none, 0, rfl, World.ownsRow_nil _ _ _ _, Below.refl _ _⟩
  · have hn0 : n = 1 := hn.symm
    subst hn0
    go_enter Tryd.func31, Tryd.ntmps31
    go_wp2_with fail
    go_ret2
    exact ⟨none, 0, rfl, World.ownsRow_nil _ _ _ _, Below.refl _ _⟩
  · simp only [List.length_cons] at hn
    obtain ⟨b, off, rfl, h0⟩ := hr.at_ (k := 0) (by simp)
    obtain ⟨b', off', e1, h1⟩ := hr.at_ (k := 1) (by simp)
    injection e1 with e1
    injection e1 with e1 e2
    subst e1 e2
    simp only [bv, List.map_cons, List.getElem_cons_zero, List.getElem_cons_succ, Nat.add_zero] at h0 h1
    have hblt := World.block_lt_of_cell? w _ h0
    simp only at hblt
    have hn2 : 2 ≤ n := by omega
    have d0 : decide (n < 2) = false := decide_eq_false (by omega)
    have d0' : decide ((n : Int) < 2) = false := decide_eq_false (by omega)
    have hI0 : (0 : Int) < (n : Int) := by omega
    have hI1 : (1 : Int) < (n : Int) := by omega
    by_cases hz : x = 0 ∧ y = 0
    · obtain ⟨rfl, rfl⟩ := hz
      have hg : Hid (fget (0 :: 0 :: r) = fgl 17 r []) := Lib.hid (by unfold fget; rw [if_neg (by simp), if_neg (by simp)]; rfl)
      obtain ⟨X, hX, hXc⟩ := cut_l (P := Tryd.prog) Tryd.underlying23 infoB (some ⟨b, off, none⟩) n c 2 hn2 hc
      obtain ⟨n2, hn2e⟩ : ∃ n2, n - 2 = n2 := ⟨_, rfl⟩
      obtain ⟨c2, hc2e⟩ : ∃ c2, c - 2 = c2 := ⟨_, rfl⟩
      rw [hn2e, hc2e] at hX
      replace hX : ∀ w : World, (Instr.sliceAt 23 (.slice (some ⟨b, off, none⟩) n c) (some (.int .i64 2)) none none).run Tryd.prog w = .ok (.slice X n2 c2) w := hX
      have hrX := Lib.hid (hXc.bytes' hr (by simp; omega) hc)
      have hXlt : Hid (∀ a, X = some a → a.block < w.heap.size) := Lib.hid (fun a ha => by
        obtain ⟨a0, q1, q2⟩ := hXc.blk a ha
        injection q1 with q1
        subst q1
        simp only at q2
        omega)
      have hn2b : n2 ≤ c2 ∧ c2 ≤ 9223372036854775807 ∧ n2 ≤ 1000000 := by omega
      have hrl : Hid (r.length = n2) := Lib.hid (by omega)
      replace hn2e := Lib.hid hn2e
      replace hc2e := Lib.hid hc2e
      clear hXc hr
      go_enter Tryd.func31, Tryd.ntmps31
      go_wp2_with fail
      obtain ⟨p, hp⟩ : ∃ p, w.heap.size = p := ⟨_, rfl⟩
      rw [hp] at hXlt
      clear h0 h1 d0 d0' hI0 hI1 hX hblt
      go_loopw [0, 4] (fun vb v wr => ∃ (acc : List Fd) (k c4 : Nat) (A4 : Option Addr) (l1 : List UInt8) (A1 : Option Addr) (n1 c1 : Nat), acc.length = k ∧ k ≤ 16 ∧ v = .slice A4 k c4 ∧ vb = .slice A1 n1 c1 ∧ (n1 ≤ c1 ∧ c1 ≤ 9223372036854775807 ∧ n1 ≤ 1000000) ∧ Hid (l1.length = n1 ∧ Rd wr A1 (bv l1) ∧ (∀ a, A1 = some a → a.block < p) ∧ fgl (17 - k) l1 acc = fgl 17 r [] ∧ wr.ownsRow p 47 2 (.slice A4 k c4) k (fdv acc) ∧ Below p w wr ∧ p ≤ wr.heap.size)) (fun vb _ _ => sliceLen vb)
      case atStart => exact ⟨[], 0, 0, none, r, X, n2, c2, rfl, by omega, rfl, rfl, hn2b, Lib.hid ⟨hrl.out, hrX.out, hXlt.out, rfl, World.ownsRow_nil _ _ _ _, Below.refl _ _, by omega⟩⟩
      case round =>
        clear hrX hXlt hrl
        obtain ⟨acc, k, c4, A4, l1, A1, n1, c1, hk, hk16, rfl, rfl, ⟨hnc1, hcc1, hn1m⟩, HK⟩ := hrel
        obtain ⟨hlen, hr1, L1, hfin, ho, hb, hplt⟩ := HK.out
        clear HK
        rcases l1 with _ | ⟨z, r1⟩
        · have hn10 : n1 = 0 := hlen.symm
          subst hn10
          rw [fgl_nil] at hfin
          have hfin2 : Hid (fget (0 :: 0 :: r) = (acc, 0)) := Lib.hid (by rw [hg.out, ← hfin])
          replace ho := Lib.hid ho
          replace hb := Lib.hid hb
          replace hk := Lib.hid hk
          replace hp := Lib.hid hp
          clear L1 hfin hlen hr1
          go_wp2_with fail
          go_ret2
          rw [hfin2.out]
          refine ⟨A4, c4, by rw [show acc.length = k from hk.out]; rfl, ?_, by rw [hp.out]; exact hb.out⟩
          rw [hp.out, show acc.length = k from hk.out]; exact ho.out
        · have hn1 : 0 < n1 := by rw [← hlen]; simp
          have hn1I : (0 : Int) < (n1 : Int) := by omega
          obtain ⟨⟨⟨fa, fb⟩, lg, er⟩, hq⟩ : ∃ q, rln (z :: r1) = q := ⟨_, rfl⟩
          obtain ⟨q1, q2⟩ := rln_pln z r1
          rw [hq] at q1 q2
          simp only at q1 q2
          rw [hlen] at q2
          have LN := Lib.hid (rline_any z r1 A1 n1 c1 wr hr1 hlen hnc1 hcc1 hn1m fa fb lg er hq)
          obtain ⟨f, hf⟩ : ∃ f, 17 - k = f + 1 := ⟨16 - k, by omega⟩
          rw [hf, fgl_cons, hk] at hfin
          by_cases hk1 : k = 16
          · rw [if_pos hk1] at hfin
            have hfin2 : Hid (fget (0 :: 0 :: r) = ([], 4)) := Lib.hid (by rw [hg.out, ← hfin])
            have d1 : ((k : Int) == 16) = true := by rw [beq_iff_eq]; omega
            replace hb := Lib.hid hb
            replace hp := Lib.hid hp
            replace hk1 := Lib.hid hk1
            clear L1 hfin ho hf q1 q2 hq hr1 hlen
            go_wp2_with fail
            refine LN.out.mono ?_
            rintro en w2 ⟨rfl, b2⟩
            have B3 := Lib.hid ((hb.out.trans (b2.mono hplt)).alloc (Nat.le_trans hplt b2.size) (.cells #[.string fa, .string fb] 47))
            go_wp2_with fail
            go_ret2
            rw [hfin2.out]
            exact ⟨none, 0, rfl, World.ownsRow_nil _ _ _ _, by rw [hp.out]; exact B3.out⟩
          · rw [if_neg hk1] at hfin
            have d1 : ((k : Int) == 16) = false := by rw [beq_eq_false_iff_ne]; omega
            by_cases he : er = 0
            · subst he
              obtain ⟨a1, a2, a3, a4⟩ := q2 rfl
              obtain ⟨M, rfl⟩ : ∃ M' : Nat, lg = M' := ⟨lg.toNat, by omega⟩
              rw [Int.toNat_natCast] at a2
              rw [← q1, if_neg (by simp), ← a1, ← a2] at hfin
              have hMn : M ≤ n1 := by omega
              obtain ⟨X2, hX2, hXc2⟩ := cut_l (P := Tryd.prog) Tryd.underlying23 infoB A1 n1 c1 M hMn hnc1
              have hrd2 := hXc2.bytes' hr1 hlen hnc1
              have hl2 : ((z :: r1).drop M).length = n1 - M := by rw [List.length_drop, hlen]
              have L2 : ∀ a, X2 = some a → a.block < p := fun a ha => by
                obtain ⟨a0, e1, e2⟩ := hXc2.blk a ha
                have := L1 a0 e1
                omega
              obtain ⟨l2, hl2e⟩ : ∃ l2, (z :: r1).drop M = l2 := ⟨_, rfl⟩
              obtain ⟨n3, hn3⟩ : ∃ n3, n1 - M = n3 := ⟨_, rfl⟩
              obtain ⟨c3, hc3⟩ : ∃ c3, c1 - M = c3 := ⟨_, rfl⟩
              rw [hl2e] at hfin hrd2 hl2
              rw [hn3, hc3] at hX2
              rw [hn3] at hl2
              have hb3 : n3 ≤ c3 ∧ c3 ≤ 9223372036854775807 ∧ n3 ≤ 1000000 ∧ n3 < n1 := by omega
              replace hfin := Lib.hid hfin
              replace hf := Lib.hid hf
              replace ho := Lib.hid ho
              replace hb := Lib.hid hb
              replace hp := Lib.hid hp
              replace hq := Lib.hid hq
              replace hl2e := Lib.hid hl2e
              replace hn3 := Lib.hid hn3
              replace hc3 := Lib.hid hc3
              have hG := Lib.hid (And.intro hl2 (And.intro hrd2 L2))
              clear L1 hr1 hlen q1 q2 a1 a2 a3 a4 hXc2 hrd2 hl2 L2
              go_wp2_with fail
              refine LN.out.mono ?_
              rintro en w2 ⟨rfl, b2⟩
              have o2 := Lib.hid (own_fr ho.out (Fr.of_below b2 NoS) (fun _ _ x => x))
              have B2 := Lib.hid (hb.out.trans (b2.mono hplt))
              have hplt2 := Nat.le_trans hplt b2.size
              have rd2 := Lib.hid (hG.out.2.1.below b2)
              have HF : Hid (∀ A6 c6 w6 oa ob, w6.ownsRow p 47 2 (.slice A6 (k + 1) c6) (k + 1) (fdv acc ++ [.string fa, .string fb]) → ((w2.alloc oa).alloc ob).grownBy w6 (Value.slice A4 k c4).ownBlock → Rd w6 X2 (bv l2) ∧ w6.ownsRow p 47 2 (.slice A6 (k + 1) c6) (k + 1) (fdv (acc ++ [⟨fa, fb⟩])) ∧ Below p w w6 ∧ p ≤ w6.heap.size) := Lib.hid (fun A6 c6 w6 oa ob h6 g6 => by
                have F6 : Fr (fun q => (Value.slice A4 k c4).ownBlock = some q) w2 w6 := (((Fr.refl _ w2).alloc oa).alloc ob).grown g6 (fun _ hq _ => hq)
                refine ⟨rd2.out.fr F6 (fun _ a ha e => ?_), by rw [fdv_append]; exact h6, Fr.under B2.out hplt2 F6 (fun q hq _ => (o2.out.lt q hq).1), by have := F6.size; omega⟩
                have q1 := hG.out.2.2 a ha
                have q2 := (o2.out.lt a.block e).1
                omega)
              clear b2
              go_wp2_with (at_builtin; refine wpList_appS rfl _ _ 22 rfl p 47 _ 2 32 infoF Tryd.underlying22 rfl (by decide) (.slice A4 k c4) k (fdv acc) rfl ((o2.out.alloc _).alloc _) ⟨w2.heap.size + 1, 0, none⟩ 1 1 [.string fa, .string fb] rfl rfl (Rd.fresh_to (by rw [World.size_alloc]) [.string fa, .string fb] _ _).cells (by intro u hu; simp at hu; rcases hu with rfl | rfl <;> rfl) (by unfold maxLen; omega) (by omega) (by simp only [World.size_alloc]; omega) ?_; intro A6 c6 w6 ho6 hg6 hat6; have H6 := Lib.hid (HF.out A6 c6 w6 _ _ ho6 hg6); clear ho6 hg6 hat6)
              go_roundw
              case rel => exact ⟨acc ++ [⟨fa, fb⟩], k + 1, c6, A6, l2, X2, n3, c3, by rw [List.length_append, hk]; rfl, by omega, rfl, rfl, ⟨hb3.1, hb3.2.1, hb3.2.2.1⟩, Lib.hid ⟨hG.out.1, H6.out.1, hG.out.2.2, by rw [← hfin.out]; congr 1; have := hf.out; omega, H6.out.2.1, H6.out.2.2.1, H6.out.2.2.2⟩⟩
              case measure => simp only [sliceLen]; omega
            · rw [← q1, if_pos he] at hfin
              have d2 : (er != 0) = true := by rw [bne_iff_ne]; exact he
              have hfin2 : Hid (fget (0 :: 0 :: r) = ([], er)) := Lib.hid (by rw [hg.out, ← hfin])
              replace hb := Lib.hid hb
              replace hp := Lib.hid hp
              clear L1 hfin ho hf q1 q2 hq hr1 hlen
              go_wp2_with fail
              refine LN.out.mono ?_
              rintro en w2 ⟨rfl, b2⟩
              have B3 := Lib.hid ((hb.out.trans (b2.mono hplt)).alloc (Nat.le_trans hplt b2.size) (.cells #[.string fa, .string fb] 47))
              go_wp2_with fail
              go_ret2
              rw [hfin2.out]
              exact ⟨none, 0, rfl, World.ownsRow_nil _ _ _ _, by rw [hp.out]; exact B3.out⟩
    · have hg : Hid (fget (x :: y :: r) = ([], 5)) := Lib.hid (by
        unfold fget
        rw [if_neg (by simp), if_pos]
        rcases Classical.em (x = 0) with h | h
        · exact .inr (fun e => hz ⟨h, e⟩)
        · exact .inl h)
      have hxy : ((x.toNat : Int) != 0) = true ∨ (((x.toNat : Int) != 0) = false ∧ ((y.toNat : Int) != 0) = true) := by
        rcases Classical.em (x = 0) with h | h
        · right
          subst h
          refine ⟨rfl, ?_⟩
          have : y ≠ 0 := fun e => hz ⟨rfl, e⟩
          exact u8_ne' this
        · left
          exact u8_ne' h
      obtain ⟨a, ha⟩ : ∃ a : Int, (x.toNat : Int) = a := ⟨_, rfl⟩
      obtain ⟨b2, hb2⟩ : ∃ b : Int, (y.toNat : Int) = b := ⟨_, rfl⟩
      rw [ha] at h0
      rw [hb2] at h1
      rw [ha, hb2] at hxy
      clear hr hz ha hb2
      rcases hxy with h | ⟨h, h2⟩
      all_goals
        go_enter Tryd.func31, Tryd.ntmps31
        go_wp2_with fail
        go_ret2
        rw [hg.out]
        exact ⟨none, 0, rfl, World.ownsRow_nil _ _ _ _, Below.refl _ _⟩
end Go.Proofs.YtdldipkbknhhoaaDoor

/- The document's letter: Get answers as ours. -/
namespace Go.Proofs.YtdldipkbknhhoaaDoor
open Go.RowKit

theorem lrd_e1 {l : List UInt8} (h : (vget l).2.2 ≠ 0) : lrd l = none := by unfold lrd; rw [if_pos h]
theorem lrd_e2 {l : List UInt8} {m : Nat} (h0 : (vget l).2.2 = 0) (hm : (vget l).2.1 = m) (hle : m ≤ l.length) (h : (vget (l.drop m)).2.2 ≠ 0 ∨ ((l.drop m).length : Int) - (vget (l.drop m)).2.1 < (vget (l.drop m)).1) : lrd l = none := by
  unfold lrd
  rw [if_neg (by rw [h0]; simp), hm, Int.toNat_natCast, if_pos]
  rcases h with h | h
  · exact .inl h
  · right
    rw [List.length_drop] at h
    omega
theorem lrd_ok {l : List UInt8} {m q L : Nat} (h0 : (vget l).2.2 = 0) (hm : (vget l).2.1 = m) (hle : m ≤ l.length) (h1 : (vget (l.drop m)).2.2 = 0) (hq : (vget (l.drop m)).2.1 = q) (hL : (vget (l.drop m)).1 = L) (h : ¬ ((l.drop m).length : Int) - q < L) :
    lrd l = some ((vget l).1, ((l.drop m).drop q).take L, (l.drop m).drop (q + L)) := by
  unfold lrd
  rw [if_neg (by rw [h0]; simp), hm, Int.toNat_natCast, if_neg, hq, hL]
  · simp only [Int.toNat_natCast, List.drop_drop, Nat.add_assoc]
  · rw [h1, hq, hL]
    rw [List.length_drop] at h
    rintro (h2 | h2)
    · exact h2 rfl
    · omega
/-- The document's Get, between two parts. -/
structure RM (w : World) (g q : Nat) (W : World) (Ab : Option Addr) (nb cb : Nat) (bod : List UInt8) (AL : Option Addr) (nL cL : Nat) (L : List UInt8) : Prop where
  res : W.heap[g]? = some (.cells #[.slice none 0 0, .slice none 0 0] 25 (0, 0))
  msg : W.heap[q]? = some (.cells #[.slice none 0 0, .slice Ab nb cb] 25 (0, 0))
  ob : W.ownsRow w.heap.size 5 1 (.slice Ab nb cb) nb (bv bod)
  lb : bod.length = nb
  ol : W.ownsRow w.heap.size 5 1 (.slice AL nL cL) nL (bv L)
  ll : L.length = nL
  bel : Below w.heap.size w W
  hg : w.heap.size = g
  hq : q = g + 1
  npb : ∀ k, (Value.slice Ab nb cb).ownBlock = some k → q < k
  npl : ∀ k, (Value.slice AL nL cL).ownBlock = some k → q < k
  sm : nL ≤ 1000000
section
variable {w W W' : World} {g q : Nat} {Ab AL : Option Addr} {nb cb nL cL : Nat} {bod L : List UInt8}
theorem RM.below (h : RM w g q W Ab nb cb bod AL nL cL L) (b : Below W.heap.size W W') : RM w g q W' Ab nb cb bod AL nL cL L :=
  ⟨heap_fr h.res (Fr.of_below b NoS) (fun x => x), heap_fr h.msg (Fr.of_below b NoS) (fun x => x), own_fr h.ob (Fr.of_below b NoS) (fun _ _ x => x), h.lb, own_fr h.ol (Fr.of_below b NoS) (fun _ _ x => x), h.ll, h.bel.trans (b.mono h.bel.size), h.hg, h.hq, h.npb, h.npl, h.sm⟩
theorem RM.qlt (h : RM w g q W Ab nb cb bod AL nL cL L) : q < W.heap.size := heap_lt h.msg
/-- A new list. -/
theorem RM.list (h : RM w g q W Ab nb cb bod AL nL cL L) {A' : Option Addr} {n' c' : Nat} {L' : List UInt8} (o : W'.ownsRow W.heap.size 5 1 (.slice A' n' c') n' (bv L')) (hl : L'.length = n') (b : Below W.heap.size W W') (hs : n' ≤ 1000000) : RM w g q W' Ab nb cb bod A' n' c' L' := by
  have h1 := h.below b
  have h2 := h.qlt
  have h3 := h.bel.size
  exact ⟨h1.res, h1.msg, h1.ob, h1.lb, own_base o (fun k hk => by have := (o.lt k hk).1; omega), hl, h1.bel, h.hg, h.hq, h.npb, fun k hk => by have := (o.lt k hk).1; omega, hs⟩
/-- A new body, stored. -/
theorem RM.body (h : RM w g q W Ab nb cb bod AL nL cL L) {A' : Option Addr} {n' c' : Nat} {D : List UInt8} (o : W'.ownsRow W.heap.size 5 1 (.slice A' n' c') n' (bv D)) (hl : D.length = n') (b : Below W.heap.size W W') : RM w g q (W'.setCell ⟨q, 1, none⟩ (.slice A' n' c')) A' n' c' D AL nL cL L := by
  have h1 := h.below b
  have h2 := h.qlt
  have h3 := h.bel.size
  have h4 := h.hq
  have h5 := h.hg
  have F : Fr (fun k => k = q) W' (W'.setCell ⟨q, 1, none⟩ (.slice A' n' c')) := (Fr.refl (fun k => k = q) W').setCell (p := ⟨q, 1, none⟩) (fun _ => rfl) _
  exact ⟨heap_fr h1.res F (fun e => by omega), heap_setCell_same _ q 1 _ _ _ h1.msg, own_fr (own_base o (fun k hk => by have := (o.lt k hk).1; omega)) F (fun k hk e => by have := (o.lt k hk).1; omega), hl, own_fr h1.ol F (fun k hk e => by have := h.npl k hk; omega), h.ll, Fr.under h1.bel h1.bel.size F (fun k hk _ => by omega), h.hg, h.hq, fun k hk => by have := (o.lt k hk).1; omega, h.npl, h.sm⟩
end
/-- How far the document's Get is. -/
def RG (l : List UInt8) (kk : Nat) (rest L bod : List UInt8) : Prop :=
  (kk = 0 ∧ rest = l ∧ bod = []) ∨ (1 ≤ kk ∧ lget l = match lgo (1025 - kk) (kk - 1) rest bod with
      | none => (([], []), 5)
      | some bod => if (fget L).2 ≠ 0 then (([], []), (fget L).2) else (((fget L).1, bod), 0))
theorem RG.none {l rest L bod : List UInt8} {kk : Nat} (h : RG l kk rest L bod) (hb : bok l.length = true) (hk : kk ≤ 1024) (h0 : rest ≠ []) (hn : lrd rest = none) : lget l = (([], []), 5) := by
  rcases h with ⟨rfl, rfl, rfl⟩ | ⟨h1, h2⟩
  · unfold lget
    rw [if_neg (by rw [hb]; simp), hn]
  · obtain ⟨f, hf⟩ : ∃ f, 1025 - kk = f + 1 := ⟨1024 - kk, by omega⟩
    rw [h2, hf, lgo_none h0 hn]
theorem RG.first {l L bod d r : List UInt8} (h : RG l 0 l L bod) (hb : bok l.length = true) (hn : lrd l = some (1, d, r)) : RG l 1 r d [] := by
  refine .inr ⟨by omega, ?_⟩
  unfold lget
  rw [if_neg (by rw [hb]; simp), hn]
  simp only [ne_eq, not_true_eq_false, if_false]
  all_goals rfl
theorem RG.first_no {l d r : List UInt8} {kind : Int} (hb : bok l.length = true) (hn : lrd l = some (kind, d, r)) (hk : kind ≠ 1) : lget l = (([], []), 5) := by
  unfold lget
  rw [if_neg (by rw [hb]; simp), hn]
  simp [hk]
theorem RG.body {l rest L bod d r : List UInt8} (h : RG l 1 rest L bod) (h0 : rest ≠ []) (hn : lrd rest = some (0, d, r)) : RG l 2 r L d := by
  rcases h with ⟨h1, _⟩ | ⟨h1, h2⟩
  · omega
  · refine .inr ⟨by omega, ?_⟩
    rw [h2, show 1025 - 1 = 1023 + 1 from rfl, lgo_some h0 hn, if_pos ⟨rfl, rfl⟩]
theorem RG.pad {l rest L bod d r : List UInt8} {kk : Nat} (h : RG l kk rest L bod) (hk1 : 1 ≤ kk) (hk : kk ≤ 1024) (h0 : rest ≠ []) (hn : lrd rest = some (33, d, r)) (hz : d.any (fun x => decide (x ≠ 0)) = false) : RG l (kk + 1) r L bod := by
  rcases h with ⟨h1, _⟩ | ⟨h1, h2⟩
  · omega
  · refine .inr ⟨by omega, ?_⟩
    obtain ⟨f, hf⟩ : ∃ f, 1025 - kk = f + 1 := ⟨1024 - kk, by omega⟩
    rw [h2, hf, lgo_some h0 hn, if_neg (by omega), if_neg (by rw [hz]; simp), show 1025 - (kk + 1) = f by omega, show kk + 1 - 1 = kk - 1 + 1 by omega]
theorem RG.pad_no {l rest L bod d r : List UInt8} {kk : Nat} {kind : Int} (h : RG l kk rest L bod) (hk1 : 1 ≤ kk) (hk : kk ≤ 1024) (h0 : rest ≠ []) (hn : lrd rest = some (kind, d, r)) (hz : kind ≠ 33 ∨ d.any (fun x => decide (x ≠ 0)) = true) (hkd : kind = 0 → kk ≠ 1) : lget l = (([], []), 5) := by
  rcases h with ⟨h1, _⟩ | ⟨h1, h2⟩
  · omega
  · obtain ⟨f, hf⟩ : ∃ f, 1025 - kk = f + 1 := ⟨1024 - kk, by omega⟩
    rw [h2, hf, lgo_some h0 hn, if_neg (fun e => hkd e.1 (by omega)), if_pos hz]
theorem RG.fin {l L bod : List UInt8} {kk : Nat} (h : RG l kk [] L bod) (hl : l ≠ []) : lget l = if (fget L).2 ≠ 0 then (([], []), (fget L).2) else (((fget L).1, bod), 0) := by
  rcases h with ⟨h1, h2, _⟩ | ⟨h1, h2⟩
  · exact absurd h2.symm hl
  · rw [h2, lgo_nil]
theorem refbucket_any (n : Int) (w : World) : Calls Tryd.prog 13 #[.int .i64 n] w fun e w' => e = .returned (.bool (bok n)) ∧ w = w' := by
  obtain ⟨v, hv⟩ : ∃ v, bok n = v := ⟨_, rfl⟩
  have hV : Hid (∀ x y z : Bool, (n == 256) = x → (n == 512) = y → (n == 1024) = z → bok n = (x || y || z)) := Lib.hid (fun x y z h1 h2 h3 => by
    rw [← h1, ← h2, ← h3]
    unfold bok
    rw [Bool.eq_iff_iff]
    simp [or_assoc])
  obtain ⟨x, hx⟩ : ∃ x, (n == 256) = x := ⟨_, rfl⟩
  obtain ⟨y, hy⟩ : ∃ y, (n == 512) = y := ⟨_, rfl⟩
  obtain ⟨z, hz⟩ : ∃ z, (n == 1024) = z := ⟨_, rfl⟩
  replace hV := Lib.hid (hV.out x y z hx hy hz)
  clear hv
  cases x with
  | true =>
    go_enter Tryd.func13, Tryd.ntmps13
    go_wp2_with fail
    go_ret
    exact ⟨by rw [hV.out]; rfl, rfl⟩
  | false =>
    cases y with
    | true =>
      go_enter Tryd.func13, Tryd.ntmps13
      go_wp2_with fail
      go_ret
      exact ⟨by rw [hV.out]; rfl, rfl⟩
    | false =>
      cases z with
      | true =>
        go_enter Tryd.func13, Tryd.ntmps13
        go_wp2_with fail
        go_ret
        exact ⟨by rw [hV.out]; rfl, rfl⟩
      | false =>
        go_enter Tryd.func13, Tryd.ntmps13
        go_wp2_with fail
        go_ret
        exact ⟨by rw [hV.out]; rfl, rfl⟩
end Go.Proofs.YtdldipkbknhhoaaDoor
