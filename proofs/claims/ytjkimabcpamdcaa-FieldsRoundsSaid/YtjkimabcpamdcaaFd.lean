/- Fields: their cells; SameFields; the fixed ones. -/
import Derived.Test.YtjkimabcpamdcaaAt
import Derived.Test.YtjkimabcpamdcaaTbP
import Derived.Test.YtjkimabcpamdcaaCpy
namespace Go.Proofs.Ytjkimabcpamdcaa
open Go.RowKit

theorem infoF : (Try.prog.info? 24).map (fun i => (i.zero, i.size, i.bytes)) = some (some (.agg #[.string .empty, .string .empty]), 2, 32) := by kernel_rfl

def Fd.cells (f : Fd) : List Value := [.string f.name, .string f.value]
def Fd.agg (f : Fd) : Value := .agg #[.string f.name, .string f.value]
theorem fdc (f : Fd) : f.cells.length = 2 := rfl
theorem fdo (f : Fd) : ∀ u ∈ f.cells, u.oneCell' = true := by
  intro u hu; simp [Fd.cells] at hu; rcases hu with rfl | rfl <;> rfl
abbrev fdv (l : List Fd) : List Value := rv Fd.cells l
@[simp] theorem fdv_len (l : List Fd) : (fdv l).length = l.length * 2 := rv_length Fd.cells fdc l
theorem fdv_append (l m : List Fd) : fdv (l ++ m) = fdv l ++ fdv m := rv_append Fd.cells l m
theorem fdv_take (l : List Fd) (k : Nat) : fdv (l.take k) = (fdv l).take (k * 2) := rv_take Fd.cells fdc l k
theorem fdv_drop (l : List Fd) (k : Nat) : fdv (l.drop k) = (fdv l).drop (k * 2) := rv_drop Fd.cells fdc l k
theorem fdv_one (l : List Fd) : ∀ u ∈ fdv l, u.oneCell' = true := rv_one Fd.cells fdo l
theorem load_fd {W : World} {A : Option Addr} {l : List Fd} (hr : Rd W A (fdv l)) {k : Nat} (hk : k < l.length) :
    ∃ b off, A = some ⟨b, off, none⟩ ∧ W.cell? ⟨b, off + k * 2, none⟩ = some (.string (l[k]).name) ∧ W.cell? ⟨b, off + k * 2 + 1, none⟩ = some (.string (l[k]).value) := by
  obtain ⟨b, off, e, h⟩ := rv_cell Fd.cells fdc (by omega) hr hk
  exact ⟨b, off, e, h 0 _ rfl, h 1 _ rfl⟩
/-- 's[k:]' of a slice of records. -/
theorem Rd.dropS {w : World} {A : Option Addr} {xs : List Value} (h : Rd w A xs) {k len cap s : Nat} (hk : k ≤ len) (hc : len ≤ cap) (hl : xs.length = len * s) : Rd w (if cap = k then A else A.map (·.add (k * s))) (xs.drop (k * s)) := fun hn => by
  obtain ⟨b, off, e, hcell⟩ := h (by simp at hn; omega)
  have hlt : k < len := by
    rcases Nat.lt_or_ge k len with h1 | h1
    · exact h1
    · have : k = len := by omega
      subst this
      simp [hl] at hn
  rw [if_neg (by omega)]
  subst e
  refine ⟨b, off + k * s, by simp [WideShapes.add_plain], fun j u hu => ?_⟩
  rw [List.getElem?_drop] at hu
  rw [Nat.add_assoc]
  exact hcell _ u hu

/-- Block B is a row of cells. -/
def HasRow (W : World) (B : Nat) (t : TypeId) (cs : Array Value) : Prop := W.heap[B]? = some (.cells cs t (0, 0))
section
variable {W W' : World} {B B' : Nat} {t : TypeId} {cs : Array Value}
theorem HasRow.lt (h : HasRow W B t cs) : B < W.heap.size := heap_lt h
theorem HasRow.cell (h : HasRow W B t cs) (i : Nat) (v : Value) (hi : cs[i]? = some v) : W.cell? ⟨B, i, none⟩ = some v := wrote_cell h i v hi
theorem HasRow.frozen (h : HasRow W B t cs) (i : Nat) : W.frozen? ⟨B, i, none⟩ = false := frozen_of_row W B i _ _ h
theorem HasRow.new (W : World) (t : TypeId) (cs : Array Value) : HasRow (W.alloc (.cells cs t)) W.heap.size t cs := heap_alloc_new W _
theorem HasRow.fr {S : Nat → Prop} (h : HasRow W B t cs) (F : Fr S W W') (hS : ¬ S B) : HasRow W' B t cs := heap_fr h F hS
theorem HasRow.below (h : HasRow W B t cs) (b : Below W.heap.size W W') : HasRow W' B t cs := h.fr (Fr.of_below b NoS) (fun x => x)
theorem HasRow.alloc (h : HasRow W B t cs) (o : Obj) : HasRow (W.alloc o) B t cs := h.below ((Below.refl _ W).alloc (Nat.le_refl _) o)
theorem HasRow.set1 {v : Value} (h : HasRow W B t #[v]) (u : Value) : HasRow (W.setCell ⟨B, 0, none⟩ u) B t #[u] := heap_setCell_same W B 0 _ t u h
theorem HasRow.other (h : HasRow W B t cs) (hne : B ≠ B') (i : Nat) (u : Value) : HasRow (W.setCell ⟨B', i, none⟩ u) B t cs := h.fr ((Fr.refl (fun k => k = B') W).setCell (p := ⟨B', i, none⟩) (fun _ => rfl) u) hne
end

theorem ba_beq (u v : ByteArray) : (u == v) = decide (u = v) := by
  obtain ⟨u⟩ := u
  obtain ⟨v⟩ := v
  have e : ((⟨u⟩ : ByteArray) == ⟨v⟩) = (u == v) := rfl
  rw [e, Bool.eq_iff_iff, beq_iff_eq, decide_eq_true_eq]
  constructor
  · rintro rfl; rfl
  · intro h; injection h
theorem ba_ne {u v : ByteArray} (h : u ≠ v) : (u == v) = false := by rw [ba_beq, decide_eq_false h]
theorem ba_list_ne {u v : ByteArray} (h : u ≠ v) : (u.toList == v.toList) = false := by
  rw [beq_eq_false_iff_ne, ByteArray.toList_eq, ByteArray.toList_eq]
  intro e
  exact h (WideShapes.bytes_inj e)
set_option maxRecDepth 100000 in
set_option maxHeartbeats 2000000 in
theorem samef_any (l m : List Fd) (A1 A2 : Option Addr) (c1 c2 : Nat) (w : World) (h1 : Rd w A1 (fdv l)) (h2 : Rd w A2 (fdv m)) (hl : l.length ≤ 1000000) (hm : m.length ≤ 1000000) :
    Calls Try.prog 10 #[.slice A1 l.length c1, .slice A2 m.length c2] w fun e w' => e = .returned (.bool (decide (l = m))) ∧ ∃ k, w' = w.drewN k := by
  by_cases hlen : l.length = m.length
  · have hb : ((l.length : Int) != (m.length : Int)) = false := by rw [hlen]; simp
    go_enter Try.func10, Try.ntmps10
    have HL := Lib.hid hlen
    clear hlen
    go_wp2
    clear hb
    go_loopw [5] (fun i wr => ∃ k q : Nat, k ≤ l.length ∧ i = .int .i64 k ∧ wr = w.drewN q ∧ l.take k = m.take k) (fun i _ => l.length - (intOf i).toNat)
    case atStart => exact ⟨0, 0, by omega, rfl, rfl, rfl⟩
    case round =>
      obtain ⟨k, q, hk, rfl, rfl, htake⟩ := hrel
      have HT := Lib.hid htake
      clear htake
      by_cases hkl : k < l.length
      · have hkm : k < m.length := by have := HL.out; omega
        obtain ⟨b1, o1, rfl, x0, x1⟩ := load_fd h1 hkl
        obtain ⟨b2, o2, rfl, y0, y1⟩ := load_fd h2 hkm
        have hd : l[k] = m[k] ∨ (l[k] ≠ m[k] ∧ ((((l[k]).name.toList == (m[k]).name.toList) = false) ∨ ((l[k]).name = (m[k]).name ∧ ((l[k]).value.toList == (m[k]).value.toList) = false))) := by
          by_cases e0 : l[k] = m[k]
          · exact .inl e0
          · refine .inr ⟨e0, ?_⟩
            by_cases e1 : (l[k]).name = (m[k]).name
            · exact .inr ⟨e1, ba_list_ne (fun e2 => e0 (by cases h : l[k]; cases h' : m[k]; simp_all))⟩
            · exact .inl (ba_list_ne e1)
        rcases hd with hd | ⟨hd, hne⟩
        · have HD := Lib.hid hd
          rw [hd] at x0 x1
          obtain ⟨f, hf⟩ : ∃ f, m[k] = f := ⟨_, rfl⟩
          rw [hf] at x0 x1 y0 y1
          obtain ⟨fa, fb⟩ := f
          clear hd hf
          go_wp2
          go_big_quiet (fail)
          go_wp2
          go_roundw
          case rel => exact ⟨k + 1, q + nq, by omega, by go_num, rfl, by rw [List.take_succ_eq_append_getElem hkl, List.take_succ_eq_append_getElem hkm, HT.out, HD.out]⟩
          case measure => simp [intOf]; omega
        · have HD := Lib.hid hd
          obtain ⟨f, hf⟩ : ∃ f, l[k] = f := ⟨_, rfl⟩
          obtain ⟨g, hg⟩ : ∃ g, m[k] = g := ⟨_, rfl⟩
          rw [hf] at x0 x1 hne
          rw [hg] at y0 y1 hne
          obtain ⟨fa, fb⟩ := f
          obtain ⟨ga, gb⟩ := g
          simp only at hne
          clear hd hf hg
          rcases hne with h0 | ⟨h0, h00⟩
          · go_wp2
            go_big_quiet (fail)
            go_wp2
            go_ret
            refine ⟨ret_bool ?_, q + nq, by rw [World.drewN_drewN]⟩
            have := HD.out
            exact (decide_eq_false (fun e => this (by simp only [e]))).symm
          · subst h0
            go_wp2
            go_big_quiet (fail)
            go_wp2
            go_ret
            refine ⟨ret_bool ?_, q + nq, by rw [World.drewN_drewN]⟩
            have := HD.out
            exact (decide_eq_false (fun e => this (by simp only [e]))).symm
      · have hkl' : k = l.length := by omega
        go_wp2
        go_ret
        refine ⟨ret_bool ?_, _, rfl⟩
        have h1 := HT.out
        have h2 := HL.out
        rw [hkl', List.take_length, h2, List.take_length] at h1
        exact (decide_eq_true h1).symm
  · have hb : ((l.length : Int) != (m.length : Int)) = true := by rw [bne_iff_ne]; omega
    have HL := Lib.hid hlen
    clear hlen
    go_enter Try.func10, Try.ntmps10
    go_wp2
    go_ret
    refine ⟨ret_bool ?_, 0, rfl⟩
    have := HL.out
    exact (decide_eq_false (fun e => this (by rw [e]))).symm
theorem samef_n (b : Bool) (l m : List Fd) (n1 n2 : Nat) (e1 : l.length = n1) (e2 : m.length = n2) (A1 A2 : Option Addr) (c1 c2 : Nat) (w : World) (h1 : Rd w A1 (fdv l)) (h2 : Rd w A2 (fdv m)) (hl : n1 ≤ 1000000) (hm : n2 ≤ 1000000) (hb : decide (l = m) = b) :
    Calls Try.prog 10 #[.slice A1 n1 c1, .slice A2 n2 c2] w fun e w' => e = .returned (.bool b) ∧ Still w w' := by
  subst e1 e2
  rw [← hb]
  exact still_of (samef_any l m A1 A2 c1 c2 w h1 h2 hl hm)

def fixed : List Fd := [⟨⟨#[58, 97, 117, 116, 104, 111, 114, 105, 116, 121]⟩, ⟨#[]⟩⟩, ⟨⟨#[58, 112, 97, 116, 104]⟩, ⟨#[47]⟩⟩, ⟨⟨#[58, 109, 101, 116, 104, 111, 100]⟩, ⟨#[71, 69, 84]⟩⟩, ⟨⟨#[58, 109, 101, 116, 104, 111, 100]⟩, ⟨#[80, 79, 83, 84]⟩⟩,
  ⟨⟨#[58, 115, 99, 104, 101, 109, 101]⟩, ⟨#[104, 116, 116, 112, 115]⟩⟩, ⟨⟨#[58, 115, 116, 97, 116, 117, 115]⟩, ⟨#[50, 48, 48]⟩⟩, ⟨⟨#[58, 115, 116, 97, 116, 117, 115]⟩, ⟨#[52, 48, 52]⟩⟩, ⟨⟨#[58, 115, 116, 97, 116, 117, 115]⟩, ⟨#[53, 48, 48]⟩⟩,
  ⟨⟨#[97, 99, 99, 101, 112, 116]⟩, ⟨#[42, 47, 42]⟩⟩, ⟨⟨#[99, 111, 110, 116, 101, 110, 116, 45, 108, 101, 110, 103, 116, 104]⟩, ⟨#[48]⟩⟩, ⟨⟨#[99, 111, 110, 116, 101, 110, 116, 45, 116, 121, 112, 101]⟩, ⟨#[116, 101, 120, 116, 47, 112, 108, 97, 105, 110]⟩⟩,
  ⟨⟨#[99, 111, 110, 116, 101, 110, 116, 45, 116, 121, 112, 101]⟩, ⟨#[97, 112, 112, 108, 105, 99, 97, 116, 105, 111, 110, 47, 106, 115, 111, 110]⟩⟩, ⟨⟨#[99, 111, 111, 107, 105, 101]⟩, ⟨#[]⟩⟩, ⟨⟨#[100, 97, 116, 101]⟩, ⟨#[]⟩⟩, ⟨⟨#[101, 116, 97, 103]⟩, ⟨#[]⟩⟩, ⟨⟨#[117, 115, 101, 114, 45, 97, 103, 101, 110, 116]⟩, ⟨#[]⟩⟩]
set_option maxRecDepth 100000 in
set_option maxHeartbeats 2000000 in
theorem fixed_any (w : World) : Calls Try.prog 22 #[] w fun e w' => ∃ A, e = .returned (.slice A 16 16) ∧ Rd w' A (fdv fixed) ∧ Below w.heap.size w w' := by
  go_enter Try.func22, Try.ntmps22
  go_wp2
  go_ret
  exact ⟨_, rfl, Rd.fresh_mark w (fdv fixed) _ _, (Below.refl _ w).alloc (Nat.le_refl _) _⟩

end Go.Proofs.Ytjkimabcpamdcaa
