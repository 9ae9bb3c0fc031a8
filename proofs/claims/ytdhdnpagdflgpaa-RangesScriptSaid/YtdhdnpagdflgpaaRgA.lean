/- ranges: what a Set holds; New, Has. -/
import Derived.Test.YtdhdnpagdflgpaaObj
import Derived.Test.YtdhdnpagdflgpaaRgP
import Derived.Test.YtdhdnpagdflgpaaCpy
import Derived.StillTailTactics
namespace Go.Proofs.Ytdhdnpagdflgpaa
open Go.RowKit

theorem infoR : (Try.prog.info? 33).map (fun i => (i.zero, i.size, i.bytes)) = some (some (.agg #[.int .u64 0, .int .u64 0]), 2, 16) := by kernel_rfl

def Rg.cells (r : Rg) : List Value := [.int .u64 r.lo, .int .u64 r.hi]
def Rg.agg (r : Rg) : Value := .agg #[.int .u64 r.lo, .int .u64 r.hi]
theorem rgc (r : Rg) : r.cells.length = 2 := rfl
theorem rgo (r : Rg) : ∀ u ∈ r.cells, u.oneCell' = true := by
  intro u hu; simp [Rg.cells] at hu; rcases hu with rfl | rfl <;> rfl
abbrev rgv (l : List Rg) : List Value := rv Rg.cells l
@[simp] theorem rgv_len (l : List Rg) : (rgv l).length = l.length * 2 := rv_length Rg.cells rgc l
theorem rgv_append (l m : List Rg) : rgv (l ++ m) = rgv l ++ rgv m := rv_append Rg.cells l m
theorem rgv_take (l : List Rg) (k : Nat) : rgv (l.take k) = (rgv l).take (k * 2) := rv_take Rg.cells rgc l k
theorem rgv_drop (l : List Rg) (k : Nat) : rgv (l.drop k) = (rgv l).drop (k * 2) := rv_drop Rg.cells rgc l k
theorem rgv_one (l : List Rg) : ∀ u ∈ rgv l, u.oneCell' = true := rv_one Rg.cells rgo l
theorem rgv_set (l : List Rg) (k : Nat) (y : Rg) (hk : k < l.length) : rgv (l.set k y) = (rgv l).take (k * 2) ++ y.cells ++ (rgv l).drop ((k + 1) * 2) := rv_set Rg.cells rgc l k y hk
theorem load_rg {W : World} {A : Option Addr} {l : List Rg} (hr : Rd W A (rgv l)) {k : Nat} (hk : k < l.length) :
    ∃ b off, A = some ⟨b, off, none⟩ ∧ W.cell? ⟨b, off + k * 2, none⟩ = some (.int .u64 (l[k]).lo) ∧ W.cell? ⟨b, off + k * 2 + 1, none⟩ = some (.int .u64 (l[k]).hi) := by
  obtain ⟨b, off, e, h⟩ := rv_cell Rg.cells rgc (by omega) hr hk
  exact ⟨b, off, e, h 0 _ rfl, h 1 _ rfl⟩

/-- Block p is a Set; its ranges lie at A. -/
structure IsSet (w : World) (p : Nat) (A : Option Addr) (c : Nat) (s : Rs) : Prop where
  cell : w.heap[p]? = some (.cells #[.int .i64 s.most, .slice A s.l.length c, .int .u64 s.floor] 49 (0, 0))
  row : w.ownsRow 0 33 2 (.slice A s.l.length c) s.l.length (rgv s.l)
  small : s.l.length ≤ 100
  tops : ∀ r ∈ s.l, r.hi ≤ 4611686018427387903
  most : s.most ≤ 64
  fl : s.floor ≤ 18446744073709551615

section
variable {w w' : World} {p : Nat} {A : Option Addr} {c : Nat} {s : Rs}
theorem IsSet.rd (h : IsSet w p A c s) : Rd w A (rgv s.l) := Rd.of_ownS h.row
theorem IsSet.lt (h : IsSet w p A c s) : p < w.heap.size := heap_lt h.cell
theorem IsSet.at (h : IsSet w p A c s) : A = none ∨ ∃ g, A = some ⟨g, 0, none⟩ ∧ p ≠ g ∧ g < w.heap.size := by
  rcases ownS_cases h.row with ⟨h1, _⟩ | ⟨g, h1, _, h3, _⟩
  · exact .inl h1
  · subst h1
    exact .inr ⟨g, rfl, own_typed h.row h.cell rfl, h3⟩
theorem IsSet.ne (h : IsSet w p A c s) : ∀ a, A = some a → a.block ≠ p := by
  intro a ha
  rcases h.at with h1 | ⟨g, h1, h2, _⟩
  · rw [h1] at ha; cases ha
  · rw [h1] at ha; injection ha with ha; subst ha; exact fun e => h2 e.symm
theorem IsSet.on_lt (h : IsSet w p A c s) : ∀ k, OnB p A k → k < w.heap.size := by
  rintro k (rfl | ⟨a, ha, rfl⟩)
  · exact h.lt
  · rcases h.at with h1 | ⟨g, h1, _, h3⟩
    · rw [h1] at ha; cases ha
    · rw [h1] at ha; injection ha with ha; subst ha; exact h3
theorem IsSet.fr {T : Nat → Prop} (h : IsSet w p A c s) (fr : Fr T w w') (hp : ¬ T p) (hA : ∀ a, A = some a → ¬ T a.block) : IsSet w' p A c s :=
  ⟨heap_fr h.cell fr hp, own_fr h.row fr (fun k hk => by
    cases A with
    | none => cases hk
    | some a => injection hk with hk; subst hk; exact hA a rfl), h.small, h.tops, h.most, h.fl⟩
theorem IsSet.drewN (h : IsSet w p A c s) (k : Nat) : IsSet (w.drewN k) p A c s := h.fr ((Fr.refl NoS w).drewN k) (fun x => x) (fun _ _ x => x)
theorem IsSet.below (h : IsSet w p A c s) (b : Below w.heap.size w w') : IsSet w' p A c s := h.fr (Fr.of_below b NoS) (fun x => x) (fun _ _ x => x)
theorem IsSet.alloc (h : IsSet w p A c s) (o : Obj) : IsSet (w.alloc o) p A c s := h.fr ((Fr.refl NoS w).alloc o) (fun x => x) (fun _ _ x => x)

set_option maxHeartbeats 400000 in
theorem new_no (most : Int) (w : World) (h : most < 1 ∨ 64 < most) : Calls Try.prog 9 #[.int .i64 most] w fun e w' => e = .returned (.pointer none) ∧ w = w' := by
  rcases h with h | h
  · have b1 : decide (most < 1) = true := decide_eq_true h
    clear h
    go_enter Try.func9, Try.ntmps9
    go_wp2_with fail
    go_ret
    exact ⟨rfl, rfl⟩
  · have b1 : decide (most < 1) = false := decide_eq_false (by omega)
    have b2 : decide (64 < most) = true := decide_eq_true h
    clear h
    go_enter Try.func9, Try.ntmps9
    go_wp2_with fail
    go_ret
    exact ⟨rfl, rfl⟩
set_option maxHeartbeats 400000 in
theorem new_any (most : Nat) (w : World) (h1 : 1 ≤ most) (h2 : most ≤ 64) : Calls Try.prog 9 #[.int .i64 most] w fun e w' => e = .returned (.pointer (some ⟨w.heap.size, 0, none⟩)) ∧ IsSet w' w.heap.size none 0 (rsnew most) ∧ Below w.heap.size w w' := by
  have b1 : decide ((most : Int) < 1) = false := decide_eq_false (by omega)
  have b2 : decide (64 < (most : Int)) = false := decide_eq_false (by omega)
  go_enter Try.func9, Try.ntmps9
  go_wp2_with fail
  go_ret
  exact ⟨rfl, ⟨heap_alloc_new w _, World.ownsRow_nil _ _ _ _, by simp [rsnew], by simp [rsnew], h2, by simp [rsnew]⟩, (Below.refl _ w).alloc (Nat.le_refl _) _⟩
end

set_option maxHeartbeats 2000000 in
theorem idxr_any (l : List Rg) (A : Option Addr) (c : Nat) (g : Nat) (lb : Array Value) (q : Rg → Bool) (w : World) (eg : Ent g) (hr : Rd w A (rgv l)) (hl : l.length ≤ 1000000)
    (hq : ∀ W x, Below w.heap.size w W → x ∈ l → Calls Try.prog g (#[x.agg] ++ lb) W fun e w' => e = .returned (.bool (q x)) ∧ Below w.heap.size w w') :
    Calls Try.prog 21 #[.slice A l.length c, .func (.func g) #[] lb] w fun e w' => e = .returned (.int .i64 (fidx q l)) ∧ Below w.heap.size w w' := by
  have EG : ∀ (args : Array Value) (w : World), (callFunc g args).run Try.prog w = .ok (.enter g args) w := eg
  replace hq := Lib.hid hq
  go_enter Try.func21, Try.ntmps21
  go_wp2
  go_loopw [5, 8] (fun _ i wr => ∃ k : Nat, k ≤ l.length ∧ i = .int .i64 k ∧ Hid (∀ j, j < k → ∀ y, l[j]? = some y → q y = false) ∧ Hid (Below w.heap.size w wr)) (fun _ i _ => l.length - (intOf i).toNat)
  case atStart => exact ⟨0, by omega, rfl, Lib.hid (fun j hj => absurd hj (by omega)), Lib.hid (Below.refl _ w)⟩
  case round =>
    obtain ⟨k, hk, rfl, HT, HB⟩ := hrel
    by_cases hkl : k < l.length
    · obtain ⟨b, off, rfl, l0, l1⟩ := load_rg (hr.fr (Fr.of_below HB.out NoS) (fun _ _ _ x => x)) hkl
      have hcall := hq.out wr l[k] HB.out (List.getElem_mem hkl)
      obtain ⟨y, hy⟩ : ∃ y, l[k] = y := ⟨_, rfl⟩
      have hy' : Hid (l[k]? = some y) := Lib.hid (by rw [List.getElem?_eq_getElem hkl, hy])
      rw [hy] at l0 l1 hcall
      clear hy hr
      unfold Rg.agg at hcall
      cases hqy : q y
      · rw [hqy] at hcall
        go_wp2_with (go_at_fn g; refine hcall.mono ?_; rintro e w' ⟨rfl, hb'⟩)
        go_roundw
        case rel => exact ⟨k + 1, by omega, by go_num, Lib.hid (fun j hj z hz => by
            rcases Nat.lt_or_ge j k with h | h
            · exact HT.out j h z hz
            · have : j = k := by omega
              subst this
              rw [hy'.out] at hz; injection hz with hz; rw [← hz]; exact hqy), Lib.hid hb'⟩
        case measure => simp [intOf]; omega
      · rw [hqy] at hcall
        go_wp2_with (go_at_fn g; refine hcall.mono ?_; rintro e w' ⟨rfl, hb'⟩)
        go_ret
        exact ⟨ret_int (fidx_hit q l k y hy'.out hqy HT.out).symm, hb'⟩
    · have hk' : k = l.length := by omega
      subst hk'
      go_wp2
      go_ret
      exact ⟨ret_int (fidx_miss q l HT.out).symm, HB.out⟩
theorem contr_any (l : List Rg) (A : Option Addr) (c : Nat) (g : Nat) (lb : Array Value) (q : Rg → Bool) (w : World) (eg : Ent g) (hr : Rd w A (rgv l)) (hl : l.length ≤ 1000000)
    (hq : ∀ W x, Below w.heap.size w W → x ∈ l → Calls Try.prog g (#[x.agg] ++ lb) W fun e w' => e = .returned (.bool (q x)) ∧ Below w.heap.size w w') :
    Calls Try.prog 26 #[.slice A l.length c, .func (.func g) #[] lb] w fun e w' => e = .returned (.bool (l.any q)) ∧ Below w.heap.size w w' := by
  have CI := Lib.hid (idxr_any l A c g lb q w eg hr hl hq)
  rw [← fidx_any q l]
  clear hq hr
  obtain ⟨V, hV⟩ : ∃ V, fidx q l = V := ⟨_, rfl⟩
  rw [hV] at CI ⊢
  clear hV
  go_enter Try.func26, Try.ntmps26
  go_wp2_with fail
  refine CI.out.mono ?_
  rintro e w' ⟨rfl, hb⟩
  clear CI
  replace hb := Lib.hid hb
  go_wp2_with fail
  go_ret
  exact ⟨rfl, hb.out⟩

theorem dec_nat (a b : Nat) : decide ((a : Int) ≤ (b : Int)) = decide (a ≤ b) := by
  by_cases h : a ≤ b
  · rw [decide_eq_true h, decide_eq_true (by omega)]
  · rw [decide_eq_false h, decide_eq_false (by omega)]
theorem dec_natlt (a b : Nat) : decide ((a : Int) < (b : Int)) = decide (a < b) := by
  by_cases h : a < b
  · rw [decide_eq_true h, decide_eq_true (by omega)]
  · rw [decide_eq_false h, decide_eq_false (by omega)]

set_option maxHeartbeats 2000000 in
theorem has1_any (r : Rg) (n X : Nat) (w : World) (hX : w.cell? ⟨X, 0, none⟩ = some (.int .u64 n)) :
    Calls Try.prog 27 (#[r.agg] ++ #[.pointer (some ⟨X, 0, none⟩)]) w fun e w' => e = .returned (.bool (r.has n)) ∧ Below w.heap.size w w' := by
  unfold Rg.agg
  show Calls Try.prog 27 #[.agg #[.int .u64 r.lo, .int .u64 r.hi], .pointer (some ⟨X, 0, none⟩)] w _
  have g1 : ∀ o, (w.alloc o).cell? ⟨X, 0, none⟩ = some (.int .u64 n) := fun o => Lib.cell?_alloc_some o hX
  obtain ⟨lo, hlo⟩ : ∃ x : Int, (r.lo : Int) = x := ⟨_, rfl⟩
  obtain ⟨hi, hhi⟩ : ∃ x : Int, (r.hi : Int) = x := ⟨_, rfl⟩
  obtain ⟨N, hN⟩ : ∃ x : Int, (n : Int) = x := ⟨_, rfl⟩
  have e : r.has n = (decide (lo ≤ N) && decide (N ≤ hi)) := by
    unfold Rg.has
    rw [← hlo, ← hhi, ← hN, dec_nat, dec_nat]
  rw [e, hlo, hhi]
  rw [hN] at g1
  clear e hlo hhi hN hX
  by_cases h1 : lo ≤ N
  · have b1 : decide (lo ≤ N) = true := decide_eq_true h1
    rw [b1, Bool.true_and]
    go_enter Try.func27, Try.ntmps27
    go_wp2_with fail
    go_ret
    exact ⟨rfl, (Below.refl _ w).alloc (Nat.le_refl _) _⟩
  · have b1 : decide (lo ≤ N) = false := decide_eq_false h1
    rw [b1, Bool.false_and]
    go_enter Try.func27, Try.ntmps27
    go_wp2_with fail
    go_ret
    exact ⟨rfl, (Below.refl _ w).alloc (Nat.le_refl _) _⟩
theorem ent_has : Ent 27 := enters_of Try.func27 (by kernel_rfl) rfl

section
variable {w w' : World} {p : Nat} {A : Option Addr} {c : Nat} {s : Rs}
set_option maxRecDepth 100000 in
set_option maxHeartbeats 2000000 in
theorem has_any (h : IsSet w p A c s) (n : Nat) : Calls Try.prog 14 #[.pointer (some ⟨p, 0, none⟩), .int .u64 n] w fun e w' => e = .returned (.bool (s.has n)) ∧ Below w.heap.size w w' := by
  have hmf := mkfn
  have c1 := fun o => wrote_cell (h.alloc o).cell 1 _ rfl
  have c2 := fun o => wrote_cell (h.alloc o).cell 2 _ rfl
  have CI : Hid (∀ m j, Calls Try.prog 26 #[.slice A s.l.length c, .func (.func 27) #[] #[.pointer (some ⟨w.heap.size, 0, none⟩)]] ((w.alloc (.cells #[.int .u64 n] m)).drewN j) fun e w' => e = .returned (.bool (rmem s.l n)) ∧ Below w.heap.size w w') := Lib.hid (fun m j => by
    have hX : ((w.alloc (.cells #[.int .u64 n] m)).drewN j).cell? ⟨w.heap.size, 0, none⟩ = some (.int .u64 n) := by
      show (w.alloc (.cells #[.int .u64 n] m)).cell? ⟨w.heap.size, 0, none⟩ = _
      rw [World.cell?_alloc_new]; rfl
    refine (contr_any s.l A c _ _ (fun r => r.has n) _ ent_has ((h.alloc _).drewN j).rd (by have := h.small; omega) (fun W r hb _ => ?_)).mono ?_
    · refine (has1_any r n w.heap.size W ((hb.cell (by simp)).trans hX)).mono ?_
      rintro e w' ⟨rfl, hb2⟩
      exact ⟨rfl, hb.trans (hb2.mono hb.size)⟩
    · rintro e w' ⟨rfl, hb⟩
      exact ⟨rfl, ((((Fr.refl NoS w).alloc _).drewN j).below).trans (hb.mono (by simp))⟩)
  have hbl : Hid (∀ o k, Below w.heap.size w ((w.alloc o).drewN k)) := Lib.hid (fun o k => (((Fr.refl NoS w).alloc o).drewN k).below)
  have e : s.has n = (decide ((n : Int) < (s.floor : Int)) || rmem s.l n) := by unfold Rs.has; rw [dec_natlt]
  obtain ⟨F, hF⟩ : ∃ F : Int, (s.floor : Int) = F := ⟨_, rfl⟩
  obtain ⟨N, hN⟩ : ∃ N : Int, (n : Int) = N := ⟨_, rfl⟩
  obtain ⟨V, hV⟩ : ∃ V, rmem s.l n = V := ⟨_, rfl⟩
  rw [hV] at CI
  rw [e, hF, hN, hV]
  rw [hN] at CI
  rw [hF] at c2
  clear e h hF hN hV
  by_cases h1 : N < F
  · have b1 : decide (N < F) = true := decide_eq_true h1
    rw [b1, Bool.true_or]
    clear CI h1
    go_enter Try.func14, Try.ntmps14
    go_wp2_with fail
    go_quiet (fail)
    go_wp2_with fail
    go_ret
    exact ⟨rfl, hbl.out _ _⟩
  · have b1 : decide (N < F) = false := decide_eq_false h1
    rw [b1, Bool.false_or]
    clear h1
    go_enter Try.func14, Try.ntmps14
    go_wp2_with fail
    have d1 := c1 (.cells #[.int .u64 N] 29)
    have d2 := c2 (.cells #[.int .u64 N] 29)
    have d3 : (w.alloc (.cells #[.int .u64 N] 29)).cell? ⟨w.heap.size, 0, none⟩ = some (.int .u64 N) := by rw [World.cell?_alloc_new]; rfl
    replace CI := Lib.hid (CI.out 29 1)
    clear c1 c2
    obtain ⟨W, hW⟩ : ∃ W, w.alloc (.cells #[.int .u64 N] 29) = W := ⟨_, rfl⟩
    rw [hW] at d1 d2 d3 CI ⊢
    replace hW := Lib.hid hW
    go_still_tail 12, (by kernel_rfl)
    change wpList _ _ _ _ _ W.drew
    go_wp2_with fail
    refine CI.out.mono ?_
    rintro e w2 ⟨rfl, hb2⟩
    replace hb2 := Lib.hid hb2
    go_wp2_with fail
    go_ret
    exact ⟨rfl, hb2.out⟩
end
end Go.Proofs.Ytdhdnpagdflgpaa
