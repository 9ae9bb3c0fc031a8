/- table: slices.Clone of fields, List, Get. -/
import Derived.Test.YtgcnhppafclnmaaTbA
import Derived.Laws.ResultCell
namespace Go.Proofs.Ytgcnhppafclnmaa
open Go.RowKit

def RetF (w : World) (l : List Fd) (e : Ending) (w' : World) : Prop :=
  ∃ A c, e = .returned (.slice A l.length c) ∧ w'.ownsRow w.heap.size 28 2 (.slice A l.length c) l.length (fdv l) ∧ Below w.heap.size w w'

set_option maxHeartbeats 1000000 in
theorem clonef_any (l : List Fd) (A : Option Addr) (c : Nat) (w : World) (hr : Rd w A (fdv l)) (hA : A = none → c = 0) (hl : l.length ≤ 1000000) :
    Calls Try.prog 26 #[.slice A l.length c] w (RetF w l) := by
  have hnil := fun (W : World) (B : Option Addr) (m k : Nat) => Lib.run_eql_slice_nil (P := Try.prog) W 22 28 B m k 0 0 Try.underlying22
  cases A with
  | none =>
    have hl0 : l = [] := by
      rcases l with _ | ⟨x, r⟩
      · rfl
      · obtain ⟨_, _, h, _⟩ := hr (by simp)
        cases h
    subst hl0
    have hc := hA rfl
    subst hc
    go_enter Try.func26, Try.ntmps26
    go_wp2
    go_ret
    exact ⟨none, 0, rfl, World.ownsRow_nil _ _ _ _, Below.refl _ _⟩
  | some a =>
    have hrc := Lib.hid (fun o => ((hr.alloc o).cells))
    go_enter Try.func26, Try.ntmps26
    go_wp2_with (at_builtin; refine Hid.out ?_)
    refine Lib.hid ?_
    refine wpList_appS rfl _ _ 22 (by rfl) w.heap.size 28 _ 2 32 infoF Try.underlying22 rfl (by decide) (.slice (some ⟨w.heap.size, 0, none⟩) 0 0) 0 [] (by rfl) (World.ownsRow_lit w #[] 0 (Nat.le_refl _) (by simp) rfl) a l.length c (fdv l) (by rfl) (fdv_len l) (hrc.out _) (fdv_one l) (by unfold maxLen; omega) (by omega) (by simp) ?_
    intro A1 c1 w1 hown hgrow _
    have F := ((Fr.refl NoS w).alloc _).grown hgrow (fun k hk hlt => by simp [Value.ownBlock] at hk; omega)
    simp only [Nat.zero_add, List.nil_append] at hown ⊢
    go_wp2
    go_ret
    exact ⟨A1, c1, rfl, hown, Fr.below F⟩

section
variable {w w' : World} {p : Nat} {A : Option Addr} {c : Nat} {t : Tb}
set_option maxHeartbeats 1000000 in
theorem tlist_any (h : IsTb w p A c t) : Calls Try.prog 20 #[.pointer (some ⟨p, 0, none⟩)] w (RetF w t.l) := by
  have c1 := wrote_cell h.cell 3 _ rfl
  have CC := Lib.hid (clonef_any t.l A c w h.rd h.nilcap h.len)
  obtain ⟨l, hl⟩ : ∃ l, t.l = l := ⟨_, rfl⟩
  rw [hl] at CC c1 ⊢
  clear h hl
  go_enter Try.func20, Try.ntmps20
  go_wp2_with fail
  refine CC.out.mono ?_
  rintro e w2 ⟨A2, c2, rfl, o2, b2⟩
  replace o2 := Lib.hid o2
  replace b2 := Lib.hid b2
  go_wp2_with fail
  go_ret
  exact ⟨A2, c2, rfl, o2.out, b2.out⟩

def fd0 : Fd := ⟨⟨#[]⟩, ⟨#[]⟩⟩
set_option maxRecDepth 100000 in
set_option maxHeartbeats 1000000 in
theorem tget_any (h : IsTb w p A c t) (n : Nat) (hn : n < 18446744073709551616) : Calls Try.prog 9 #[.pointer (some ⟨p, 0, none⟩), .int .u64 n] w fun e w' => e = .returned (.tuple #[((t.get n).getD fd0).agg, .bool (t.get n).isSome]) ∧ Below w.heap.size w w' := by
  have c2 := fun o => wrote_cell (h.alloc o).cell 2 _ rfl
  have c3 := fun o => wrote_cell (h.alloc o).cell 3 _ rfl
  have hlen := t.len_add h.ok
  have hsm := h.small
  by_cases h1 : n < t.gone
  · have e : t.get n = none := by unfold Tb.get; rw [if_neg (by omega)]
    have b1 : decide ((n : Int) < (t.gone : Int)) = true := decide_eq_true (by omega)
    rw [e]
    obtain ⟨g, hg⟩ : ∃ g : Int, (t.gone : Int) = g := ⟨_, rfl⟩
    rw [hg] at b1 c2
    clear h hlen h1 e hg
    go_enter Try.func9, Try.ntmps9
    go_wp2_with fail
    go_big_quiet (fail)
    go_wp2_with fail
    refine bodyPost_ret (v := (Value.tuple #[.agg #[.string ⟨#[]⟩, .string ⟨#[]⟩], .bool false])) (by rw [results_cell_tmp rfl]; go_simp) rfl ?_
    exact ⟨rfl, (((((Fr.refl NoS w).alloc _).drewN _).setCell (p := ⟨w.heap.size, 0, none⟩) (fun h => absurd h (Nat.lt_irrefl _)) _).setCell (p := ⟨w.heap.size, 1, none⟩) (fun h => absurd h (Nat.lt_irrefl _)) _).below⟩
  · obtain ⟨k, hk⟩ : ∃ k, n = t.gone + k := ⟨n - t.gone, by omega⟩
    have b1 : decide ((n : Int) < (t.gone : Int)) = false := decide_eq_false (by omega)
    have hsub : (n : Int) - (t.gone : Int) = (k : Int) := by omega
    have e : t.get n = t.l[k]? := by
      unfold Tb.get Tb.l
      rw [if_pos (by omega), hk, List.getElem?_drop]
    rw [e]
    by_cases h2 : k < t.l.length
    · obtain ⟨b, off, rfl, x0, x1⟩ := load_fd h.rd h2
      have y0 := fun o => ((Below.refl _ w).alloc (Nat.le_refl _) o).cell (World.block_lt_of_cell? w _ x0) |>.trans x0
      have y1 := fun o => ((Below.refl _ w).alloc (Nat.le_refl _) o).cell (World.block_lt_of_cell? w _ x1) |>.trans x1
      have e2 : t.l[k]? = some t.l[k] := List.getElem?_eq_getElem h2
      rw [e2]
      have b2 : decide ((t.l.length : Int) ≤ (k : Int)) = false := decide_eq_false (by omega)
      have b2' : decide (t.l.length ≤ k) = false := decide_eq_false (by omega)
      have hkI : (k : Int) < (t.l.length : Int) := by omega
      obtain ⟨g, hg⟩ : ∃ g : Int, (t.gone : Int) = g := ⟨_, rfl⟩
      obtain ⟨m, hm⟩ : ∃ m, t.l.length = m := ⟨_, rfl⟩
      obtain ⟨f, hf⟩ : ∃ f, t.l[k] = f := ⟨_, rfl⟩
      obtain ⟨fa, fb⟩ := f
      have hmb : m ≤ 1000000 := by omega
      have hkb : k ≤ 1000000 := by omega
      rw [hf] at y0 y1 ⊢
      rw [hg] at b1 c2 hsub
      rw [hm] at c3 b2 hkI h2 b2'
      clear h hlen h1 e e2 hg hf hm hk x0 x1
      go_enter Try.func9, Try.ntmps9
      go_wp2_with fail
      go_big_quiet (fail)
      go_wp2_with fail
      go_region
      go_wp2_with fail
      refine bodyPost_ret (v := (Value.tuple #[.agg #[.string fa, .string fb], .bool true])) (by rw [results_cell_tmp rfl]; go_simp) rfl ?_
      exact ⟨rfl, (((((Fr.refl NoS w).alloc _).drewN _).setCell (p := ⟨w.heap.size, 0, none⟩) (fun h => absurd h (Nat.lt_irrefl _)) _).setCell (p := ⟨w.heap.size, 1, none⟩) (fun h => absurd h (Nat.lt_irrefl _)) _).below⟩
    · have e2 : t.l[k]? = none := List.getElem?_eq_none (by omega)
      rw [e2]
      have b2 : decide ((t.l.length : Int) ≤ (k : Int)) = true := decide_eq_true (by omega)
      have b2' : decide (t.l.length ≤ k) = true := decide_eq_true (by omega)
      obtain ⟨g, hg⟩ : ∃ g : Int, (t.gone : Int) = g := ⟨_, rfl⟩
      obtain ⟨m, hm⟩ : ∃ m, t.l.length = m := ⟨_, rfl⟩
      have hmb : m ≤ 1000000 := by omega
      have hkb : k < 18446744073709551616 := by omega
      rw [hg] at b1 c2 hsub
      rw [hm] at c3 b2 b2'
      clear h hlen h1 e e2 hg hm hk h2
      go_enter Try.func9, Try.ntmps9
      go_wp2_with fail
      go_big_quiet (fail)
      go_wp2_with fail
      refine bodyPost_ret (v := (Value.tuple #[.agg #[.string ⟨#[]⟩, .string ⟨#[]⟩], .bool false])) (by rw [results_cell_tmp rfl]; go_simp) rfl ?_
      exact ⟨rfl, (((((Fr.refl NoS w).alloc _).drewN _).setCell (p := ⟨w.heap.size, 0, none⟩) (fun h => absurd h (Nat.lt_irrefl _)) _).setCell (p := ⟨w.heap.size, 1, none⟩) (fun h => absurd h (Nat.lt_irrefl _)) _).below⟩
end
end Go.Proofs.Ytgcnhppafclnmaa
