/- fields: the reader: number, text, value. -/
import Derived.Test.YtjkimabcpamdcaaFdD
import Derived.Test.YtjkimabcpamdcaaCut
namespace Go.Proofs.Ytjkimabcpamdcaa
open Go.RowKit

theorem res1 {P : Program} {fn : Func} {p : Tmp} {s : TypeId} (h : fn.results = #[.cell p s]) (tmps : Array Value) (w : World) (a : Addr) (x : Value)
    (ha : tmps.getD p undef = .pointer (some a)) (hx : (loadVar s a).run P w = .ok x w) : (results fn tmps).run P w = .ok x w := by
  simp only [Array.getD_eq_getD_getElem?] at ha
  simp only [results, h]
  simp [Sem.run_bind, Result.andThen, ha, asAddr, hx]

theorem HasRow.set2 {W : World} {B : Nat} {t : TypeId} {x y : Value} (h : HasRow W B t #[x, y]) (u v : Value) : HasRow ((W.setCell ⟨B, 0, none⟩ u).setCell ⟨B, 1, none⟩ v) B t #[u, v] :=
  heap_setCell_same _ B 1 _ t v (heap_setCell_same W B 0 _ t u h)
theorem loadF {w : World} {g : Nat} {a b : ByteArray} (h : HasRow w g 24 #[.string a, .string b]) : (loadVar 24 ⟨g, 0, none⟩).run Try.prog w = .ok (.agg #[.string a, .string b]) w := by
  have k0 := h.cell 0 _ rfl
  have k1 := h.cell 1 _ rfl
  simp [go_sem, k0, k1]
set_option maxRecDepth 100000 in
set_option maxHeartbeats 2000000 in
theorem fixed_far (w : World) : Calls Try.prog 22 #[] w fun e w' => ∃ g, e = .returned (.slice (some ⟨g, 0, none⟩) 16 16) ∧ w.heap.size ≤ g ∧ (∀ (N : Nat) (a b : ByteArray), fixed[N]? = some (⟨a, b⟩ : Fd) → w'.cell? ⟨g, N * 2, none⟩ = some (.string a) ∧ w'.cell? ⟨g, N * 2 + 1, none⟩ = some (.string b)) ∧ Below w.heap.size w w' := by
  go_enter Try.func22, Try.ntmps22
  go_wp2
  go_ret
  refine ⟨_, rfl, Nat.le_refl _, fun N a b h => ?_, (Below.refl _ w).alloc (Nat.le_refl _) _⟩
  obtain ⟨hN, e⟩ := List.getElem?_eq_some_iff.1 h
  obtain ⟨b', off', e1, x0, x1⟩ := load_fd (Rd.fresh_mark w (fdv fixed) _ _) hN
  injection e1 with e1
  injection e1 with e1 e2
  subst e1 e2
  rw [e, Nat.zero_add] at x0 x1
  exact ⟨x0, x1⟩
structure Rdr (w : World) (p : Nat) (A : Option Addr) (n c : Nat) (l : List UInt8) (e : Int) : Prop where
  row : HasRow w p 47 #[.slice A n c, .int .i64 e]
  rd : Rd w A (bv l)
  len : l.length = n
  cap : n ≤ c
  capx : c ≤ 9223372036854775807
  far : ∀ a, A = some a → a.block ≠ p
  lt : ∀ a, A = some a → a.block < w.heap.size
  small : n ≤ 1000000
def RdrB (B : Nat) (w : World) (p : Nat) (l : List UInt8) (e : Int) : Prop := ∃ A n c, Rdr w p A n c l e ∧ ∀ a, A = some a → a.block < B
section
variable {w w' : World} {p : Nat} {A : Option Addr} {n c : Nat} {l : List UInt8} {e : Int}
theorem Rdr.fr {S : Nat → Prop} (h : Rdr w p A n c l e) (F : Fr S w w') (hp : ¬ S p) (hA : ∀ a, A = some a → ¬ S a.block) : Rdr w' p A n c l e :=
  ⟨h.row.fr F hp, h.rd.fr F (fun _ a ha => hA a ha), h.len, h.cap, h.capx, h.far, (fun a ha => by have := h.lt a ha; have := F.size; omega), h.small⟩
theorem Rdr.below (h : Rdr w p A n c l e) (b : Below w.heap.size w w') : Rdr w' p A n c l e := h.fr (Fr.of_below b NoS) (fun x => x) (fun _ _ x => x)
theorem Rdr.setE (h : Rdr w p A n c l e) (e' : Int) : Rdr (w.setCell ⟨p, 1, none⟩ (.int .i64 e')) p A n c l e' :=
  ⟨heap_setCell_same w p 1 _ _ _ h.row, h.rd.fr ((Fr.refl (fun k => k = p) w).setCell (p := ⟨p, 1, none⟩) (fun _ => rfl) _) (fun _ a ha e => h.far a ha e), h.len, h.cap, h.capx, h.far, (fun a ha => by have := h.lt a ha; simpa [World.setCell] using this), h.small⟩
theorem Rdr.setB (h : Rdr w p A n c l e) (X : Option Addr) (m : Nat) (hm : m ≤ n) (hc : CutOf A X m n c) : Rdr (w.setCell ⟨p, 0, none⟩ (.slice X (n - m) (c - m))) p X (n - m) (c - m) (l.drop m) e := by
  have hl := h.len
  have hcap := h.cap
  have hcx := h.capx
  have hsm := h.small
  refine ⟨heap_setCell_same w p 0 _ _ _ h.row, ?_, by rw [List.length_drop, hl], by omega, by omega, fun a ha => ?_, fun a ha => ?_, by omega⟩
  · have := hc.bytes' h.rd hl h.cap
    exact this.fr ((Fr.refl (fun k => k = p) w).setCell (p := ⟨p, 0, none⟩) (fun _ => rfl) _) (fun _ a ha e => by
      obtain ⟨a0, h1, h2⟩ := hc.blk a ha
      exact h.far a0 h1 (h2.trans e))
  · obtain ⟨a0, h1, h2⟩ := hc.blk a ha
    rw [← h2]; exact h.far a0 h1
  · obtain ⟨a0, h1, h2⟩ := hc.blk a ha
    have := h.lt a0 h1
    rw [← h2]
    simpa [World.setCell] using this
theorem frp_cell (w : World) (p i : Nat) (v : Value) : Fr (fun k => k = p) w (w.setCell ⟨p, i, none⟩ v) := (Fr.refl (fun k => k = p) w).setCell (p := ⟨p, i, none⟩) (fun _ => rfl) v
end

/-- The reader behind a write into a result's block g. -/
theorem rdr_out {w0 w : World} {p g : Nat} {A : Option Addr} {n c : Nat} {l : List UInt8} {e : Int} {x y : Value} (h : Rdr w p A n c l e) (hR : HasRow w g 24 #[x, y]) (hpg : p ≠ g) (hA : ∀ a, A = some a → a.block ≠ g) (F : Fr (fun k => k = p) w0 w) (hg : w0.heap.size ≤ g) (u v : Value) :
    HasRow ((w.setCell ⟨g, 0, none⟩ u).setCell ⟨g, 1, none⟩ v) g 24 #[u, v] ∧ Rdr ((w.setCell ⟨g, 0, none⟩ u).setCell ⟨g, 1, none⟩ v) p A n c l e ∧ Fr (fun k => k = p) w0 ((w.setCell ⟨g, 0, none⟩ u).setCell ⟨g, 1, none⟩ v) := by
  refine ⟨hR.set2 u v, (h.fr (frp_cell _ g 0 u) (fun e => hpg e) (fun a ha => hA a ha)).fr (frp_cell _ g 1 v) (fun e => hpg e) (fun a ha => hA a ha), ?_⟩
  exact (F.setCell (p := ⟨g, 0, none⟩) (fun h => absurd h (by simp only; omega)) u).setCell (p := ⟨g, 1, none⟩) (fun h => absurd h (by simp only; omega)) v
def fdz : Fd := ⟨⟨#[]⟩, ⟨#[]⟩⟩
def pnum (b : Nat) (l : List UInt8) : List UInt8 × Int × Fd :=
  if (pget b l).2.2 ≠ 0 then (l, (pget b l).2.2, fdz) else if 16 ≤ (pget b l).1 then (l, 5, fdz) else (l.drop (pget b l).2.1.toNat, 0, fixed.getD (pget b l).1.toNat fdz)
def ptxt (b : Nat) (l : List UInt8) (e : Int) : List UInt8 × Int × ByteArray :=
  if e ≠ 0 then (l, e, ⟨#[]⟩) else (l.drop (pgettext b l).2.1.toNat, (pgettext b l).2.2, ⟨(pgettext b l).1.toArray⟩)
def pval (l : List UInt8) (e : Int) : List UInt8 × Int × ByteArray :=
  if (ptxt 7 l e).2.1 ≠ 0 then ptxt 7 l e else if 400 < (ptxt 7 l e).2.2.size then ((ptxt 7 l e).1, 4, (ptxt 7 l e).2.2) else if valok (ptxt 7 l e).2.2 = true then ptxt 7 l e else ((ptxt 7 l e).1, 5, (ptxt 7 l e).2.2)

theorem pget_bd (b : Nat) (l : List UInt8) (hb1 : 1 ≤ b) (hb8 : b ≤ 8) (h : (pget b l).2.2 = 0) : 0 ≤ (pget b l).1 ∧ (pget b l).1 ≤ 4611686018427387903 ∧ 1 ≤ (pget b l).2.1 ∧ (pget b l).2.1 ≤ l.length := by
  cases l with
  | nil => simp [pget] at h
  | cons x r => have := pget_ok b x r hb1 hb8 h; simpa using this

section
variable {w w' : World} {p : Nat} {A : Option Addr} {n c : Nat} {l : List UInt8} {e : Int}
set_option maxRecDepth 100000 in
set_option maxHeartbeats 4000000 in
theorem number_any (h : Rdr w p A n c l e) (B : Nat) (hB : ∀ a, A = some a → a.block < B) (b : Nat) (hb1 : 1 ≤ b) (hb8 : b ≤ 8) (l' : List UInt8) (e1 : Int) (fa fb : ByteArray) (hp : pnum b l = (l', e1, ⟨fa, fb⟩)) :
    Calls Try.prog 28 #[.pointer (some ⟨p, 0, none⟩), .int .i64 b] w fun en w' => en = .returned (.agg #[.string fa, .string fb]) ∧ RdrB B w' p l' e1 ∧ Fr (fun k => k = p) w w' := by
  have hplt := h.row.lt
  have B1 := (Below.refl _ w).alloc (Nat.le_refl _) (.cells #[.string ⟨#[]⟩, .string ⟨#[]⟩] 24)
  have R1 := HasRow.new w 24 #[.string ⟨#[]⟩, .string ⟨#[]⟩]
  obtain ⟨W1, hW1⟩ : ∃ W1, w.alloc (.cells #[.string ⟨#[]⟩, .string ⟨#[]⟩] 24) = W1 := ⟨_, rfl⟩
  rw [hW1] at B1 R1
  obtain ⟨g, hg⟩ : ∃ g, w.heap.size = g := ⟨_, rfl⟩
  rw [hg] at R1
  have hpg : p ≠ g := by omega
  have H1 := Lib.hid (h.below B1)
  have HLt := Lib.hid hB
  have HFar : Hid (∀ a, A = some a → a.block ≠ g) := Lib.hid (fun a ha e => by
    have := h.lt a ha
    omega)
  replace hW1 := Lib.hid hW1
  replace hg := Lib.hid hg
  replace B1 := Lib.hid B1
  replace R1 := Lib.hid R1
  clear h
  go_enter Try.func28, Try.ntmps28
  go_wp2_with fail
  rw [hW1.out, hg.out]
  refine (fixed_far W1).mono ?_
  rintro en w2 ⟨gF, rfl, hgF, rdF, b2⟩
  have B2 := Lib.hid (B1.out.trans (b2.mono B1.out.size))
  have R2 := Lib.hid (R1.out.below b2)
  have H2 := Lib.hid (H1.out.below b2)
  replace rdF := Lib.hid rdF
  have x0 := H2.out.row.cell 0 _ rfl
  have hgFp : gF ≠ p := by have := B1.out.size; omega
  clear R1 B1 b2 H1
  go_wp2_with fail
  have PG := pget_any l b A c w2 hb1 hb8 H2.out.rd (by have := H2.out.len; have := H2.out.small; omega)
  rw [H2.out.len] at PG
  refine PG.mono ?_
  rintro en w2b ⟨rfl, rfl⟩
  have hbd := pget_bd b l hb1 hb8
  unfold pnum at hp
  obtain ⟨N, hN⟩ : ∃ N, (pget b l).1 = N := ⟨_, rfl⟩
  obtain ⟨M, hM⟩ : ∃ M, (pget b l).2.1 = M := ⟨_, rfl⟩
  obtain ⟨E, hE⟩ : ∃ E, (pget b l).2.2 = E := ⟨_, rfl⟩
  unfold ptup
  rw [hN, hM, hE]
  rw [hN, hM, hE] at hp hbd
  rw [H2.out.len] at hbd
  replace hN := Lib.hid hN
  replace hM := Lib.hid hM
  replace hE := Lib.hid hE
  clear PG x0
  have x1 := H2.out.row.cell 1 _ rfl
  have f1 := H2.out.row.frozen 1
  have g0 := R2.out.cell 0 _ rfl
  have g1 := R2.out.cell 1 _ rfl
  have q0 := R2.out.frozen 0
  have q1 := R2.out.frozen 1
  have HLt2 := HLt
  by_cases hE0 : E = 0
  · obtain ⟨n0, n1, m1, m2⟩ := hbd hE0
    subst hE0
    rw [if_neg (by simp)] at hp
    by_cases h16 : 16 ≤ N
    · rw [if_pos h16] at hp
      injection hp with hp1 hp2
      injection hp2 with hp2 hp3
      unfold fdz at hp3
      injection hp3 with hp3 hp4
      subst hp1 hp2 hp3 hp4
      have d1 : decide (16 ≤ N) = true := decide_eq_true h16
      have HE := Lib.hid (H2.out.setE 5)
      clear hbd
      have HO := Lib.hid (rdr_out HE.out (R2.out.other (B' := p) (fun e => hpg e.symm) 1 (.int .i64 5)) hpg HFar.out ((Fr.of_below B2.out (fun k => k = p)).trans (frp_cell w2 p 1 (.int .i64 5))) (by rw [hg.out]; exact Nat.le_refl _) (.string ⟨#[]⟩) (.string ⟨#[]⟩))
      go_wp2_with fail
      refine bodyPost_ret (v := .agg #[.string ⟨#[]⟩, .string ⟨#[]⟩]) (res1 rfl _ _ ⟨g, 0, none⟩ _ rfl (loadF HO.out.1)) rfl ?_
      exact ⟨rfl, ⟨_, _, _, HO.out.2.1, HLt2.out⟩, HO.out.2.2⟩
    · rw [if_neg h16] at hp
      injection hp with hp1 hp2
      injection hp2 with hp2 hp3
      obtain ⟨N, rfl⟩ : ∃ N' : Nat, N = N' := ⟨N.toNat, by omega⟩
      obtain ⟨M, rfl⟩ : ∃ M' : Nat, M = M' := ⟨M.toNat, by omega⟩
      rw [Int.toNat_natCast] at hp1 hp3
      subst hp1 hp2
      have hN16 : N < 16 := by omega
      have hMn : M ≤ n := by omega
      have d1 : decide (16 ≤ (N : Int)) = false := decide_eq_false h16
      have d1' : decide (16 ≤ N) = false := decide_eq_false (by omega)
      have hN16I : (N : Int) < 16 := by omega
      have hfx : fixed[N]? = some ⟨fa, fb⟩ := by
        rw [List.getD_eq_getElem?_getD] at hp3
        rw [List.getElem?_eq_getElem (show N < fixed.length from hN16)] at hp3 ⊢
        rw [← hp3]; rfl
      have HE := Lib.hid (H2.out.setE 0)
      obtain ⟨X, hX, hXc⟩ := cut_l (P := Try.prog) Try.underlying26 infoB A n c M hMn H2.out.cap
      obtain ⟨n2, hn2⟩ : ∃ n2, n - M = n2 := ⟨_, rfl⟩
      obtain ⟨c2, hc2⟩ : ∃ c2, c - M = c2 := ⟨_, rfl⟩
      have HB := HE.out.setB X M hMn hXc
      rw [hn2, hc2] at HB
      rw [hn2, hc2] at hX
      have e0 := HE.out.row.cell 0 _ rfl
      have e1 := HE.out.row.frozen 0
      have F3 := (((Fr.of_below B2.out (fun k => k = p)).trans (frp_cell w2 p 1 (.int .i64 0))).trans (frp_cell _ p 0 (.slice X n2 c2)))
      have hrow := rdF.out N fa fb hfx
      have y0 := (((frp_cell w2 p 1 (.int .i64 0)).trans (frp_cell _ p 0 (.slice X n2 c2))).cell (World.block_lt_of_cell? w2 _ hrow.1) hgFp).trans hrow.1
      have y1 := (((frp_cell w2 p 1 (.int .i64 0)).trans (frp_cell _ p 0 (.slice X n2 c2))).cell (World.block_lt_of_cell? w2 _ hrow.2) hgFp).trans hrow.2
      have HO := Lib.hid (rdr_out HB ((R2.out.other (B' := p) (fun e => hpg e.symm) 1 (.int .i64 0)).other (B' := p) (fun e => hpg e.symm) 0 (.slice X n2 c2)) hpg (fun a ha => by
        obtain ⟨a0, h1, h2⟩ := hXc.blk a ha
        rw [← h2]; exact HFar.out a0 h1) F3 (by rw [hg.out]; exact Nat.le_refl _) (.string fa) (.string fb))
      have HLt2 : Hid (∀ a, X = some a → a.block < B) := Lib.hid (fun a ha => by
        obtain ⟨a0, h1, h2⟩ := hXc.blk a ha
        rw [← h2]; exact HLt.out a0 h1)
      clear hbd hp3 hfx F3 HB hrow hXc
      replace hn2 := Lib.hid hn2
      replace hc2 := Lib.hid hc2
      go_wp2_with fail
      refine bodyPost_ret (v := .agg #[.string fa, .string fb]) (res1 rfl _ _ ⟨g, 0, none⟩ _ rfl (loadF HO.out.1)) rfl ?_
      exact ⟨rfl, ⟨_, _, _, HO.out.2.1, HLt2.out⟩, HO.out.2.2⟩
  · rw [if_pos hE0] at hp
    injection hp with hp1 hp2
    injection hp2 with hp2 hp3
    unfold fdz at hp3
    injection hp3 with hp3 hp4
    subst hp1 hp2 hp3 hp4
    have d1 : (E == 0) = false := by rw [beq_eq_false_iff_ne]; exact hE0
    have d1' : (E != 0) = true := by rw [bne_iff_ne]; exact hE0
    have HE := Lib.hid (H2.out.setE E)
    have HO := Lib.hid (rdr_out HE.out (R2.out.other (B' := p) (fun e => hpg e.symm) 1 (.int .i64 E)) hpg HFar.out ((Fr.of_below B2.out (fun k => k = p)).trans (frp_cell w2 p 1 (.int .i64 E))) (by rw [hg.out]; exact Nat.le_refl _) (.string ⟨#[]⟩) (.string ⟨#[]⟩))
    clear hbd
    go_wp2_with fail
    refine bodyPost_ret (v := .agg #[.string ⟨#[]⟩, .string ⟨#[]⟩]) (res1 rfl _ _ ⟨g, 0, none⟩ _ rfl (loadF HO.out.1)) rfl ?_
    exact ⟨rfl, ⟨_, _, _, HO.out.2.1, HLt2.out⟩, HO.out.2.2⟩
end
end Go.Proofs.Ytjkimabcpamdcaa
