/- fields: slices.Index, slices.IndexFunc over fields; Line. -/
import Derived.Test.YtjkimabcpamdcaaFd
import Derived.Test.YtjkimabcpamdcaaPreC
namespace Go.Proofs.Ytjkimabcpamdcaa
open Go.RowKit

set_option maxRecDepth 100000 in
set_option maxHeartbeats 2000000 in
theorem idx_any (l : List Fd) (A : Option Addr) (c : Nat) (a b : ByteArray) (w : World) (hr : Rd w A (fdv l)) (hl : l.length ≤ 1000000) :
    Calls Try.prog 23 #[.slice A l.length c, .agg #[.string a, .string b]] w fun e w' => e = .returned (.int .i64 (fidx (fun x => decide (x = ⟨a, b⟩)) l)) ∧ Below w.heap.size w w' := by
  have hwB := (Below.refl _ w).alloc (Nat.le_refl _) (.cells #[.string a, .string b] 24)
  have hR := HasRow.new w 24 #[.string a, .string b]
  obtain ⟨W1, hW1⟩ : ∃ W1, w.alloc (.cells #[.string a, .string b] 24) = W1 := ⟨_, rfl⟩
  rw [hW1] at hwB hR
  have hr1 := hr.below hwB
  obtain ⟨g, hg⟩ : ∃ g, w.heap.size = g := ⟨_, rfl⟩
  replace hW1 := Lib.hid hW1
  replace hg := Lib.hid hg
  go_enter Try.func23, Try.ntmps23
  go_wp2
  rw [hW1.out, hg.out]
  rw [hg.out] at hR
  replace hwB := Lib.hid hwB
  clear hW1 hr
  have f0 := hR.cell 0 _ rfl
  have f1 := hR.cell 1 _ rfl
  go_loopw [5, 8] (fun _ i wr => ∃ k q : Nat, k ≤ l.length ∧ i = .int .i64 k ∧ wr = W1.drewN q ∧ Hid (∀ j, j < k → ∀ y, l[j]? = some y → decide (y = (⟨a, b⟩ : Fd)) = false)) (fun _ i _ => l.length - (intOf i).toNat)
  case atStart => exact ⟨0, 0, by omega, rfl, rfl, Lib.hid (fun j hj => absurd hj (by omega))⟩
  case round =>
    obtain ⟨k, q, hk, rfl, rfl, HT⟩ := hrel
    by_cases hkl : k < l.length
    · obtain ⟨bb, off, rfl, x0, x1⟩ := load_fd hr1 hkl
      obtain ⟨y, hy⟩ : ∃ y, l[k] = y := ⟨_, rfl⟩
      have hy' : Hid (l[k]? = some y) := Lib.hid (by rw [List.getElem?_eq_getElem hkl, hy])
      rw [hy] at x0 x1
      obtain ⟨fa, fb⟩ := y
      by_cases he : (⟨fa, fb⟩ : Fd) = ⟨a, b⟩
      · have hq := decide_eq_true he
        injection he with h1 h2
        subst h1 h2
        replace hq := Lib.hid hq
        clear hy
        go_wp2
        go_big_quiet (fail)
        go_wp2
        go_ret
        exact ⟨ret_int (fidx_hit _ l k _ hy'.out (decide_eq_true rfl) HT.out).symm, hwB.out.trans (((Still.drewN W1 q).trans (Still.drewN _ nq)).below.mono hwB.out.size)⟩
      · have hq := Lib.hid (decide_eq_false he)
        have hne : (a.toList == fa.toList) = false ∨ (a = fa ∧ (b.toList == fb.toList) = false) := by
          by_cases h1 : a = fa
          · exact .inr ⟨h1, ba_list_ne (fun e => he (by rw [h1, e]))⟩
          · exact .inl (ba_list_ne h1)
        clear hy he
        rcases hne with h1 | ⟨rfl, h1⟩
        all_goals
          go_wp2
          go_big_quiet (fail)
          go_wp2
          go_roundw
          case rel => exact ⟨k + 1, q + nq, by omega, by go_num, rfl, Lib.hid (fun j hj z hz => by
              rcases Nat.lt_or_ge j k with h | h
              · exact HT.out j h z hz
              · have : j = k := by omega
                subst this
                rw [hy'.out] at hz; injection hz with hz; rw [← hz]; exact hq.out)⟩
          case measure => simp [intOf]; omega
    · have hk' : k = l.length := by omega
      subst hk'
      go_wp2
      go_ret
      exact ⟨ret_int (fidx_miss _ l HT.out).symm, hwB.out.trans ((Still.drewN _ _).below.mono hwB.out.size)⟩

set_option maxHeartbeats 2000000 in
theorem idxf_any (l : List Fd) (A : Option Addr) (c : Nat) (g : Nat) (lb : Array Value) (q : Fd → Bool) (w : World) (eg : Ent g) (hr : Rd w A (fdv l)) (hl : l.length ≤ 1000000)
    (hq : ∀ W x, Below w.heap.size w W → x ∈ l → Calls Try.prog g (#[x.agg] ++ lb) W fun e w' => e = .returned (.bool (q x)) ∧ Below w.heap.size w w') :
    Calls Try.prog 26 #[.slice A l.length c, .func (.func g) #[] lb] w fun e w' => e = .returned (.int .i64 (fidx q l)) ∧ Below w.heap.size w w' := by
  have EG : ∀ (args : Array Value) (w : World), (callFunc g args).run Try.prog w = .ok (.enter g args) w := eg
  replace hq := Lib.hid hq
  go_enter Try.func26, Try.ntmps26
  go_wp2
  go_loopw [5, 8] (fun _ i wr => ∃ k : Nat, k ≤ l.length ∧ i = .int .i64 k ∧ Hid (∀ j, j < k → ∀ y, l[j]? = some y → q y = false) ∧ Hid (Below w.heap.size w wr)) (fun _ i _ => l.length - (intOf i).toNat)
  case atStart => exact ⟨0, by omega, rfl, Lib.hid (fun j hj => absurd hj (by omega)), Lib.hid (Below.refl _ w)⟩
  case round =>
    obtain ⟨k, hk, rfl, HT, HB⟩ := hrel
    by_cases hkl : k < l.length
    · obtain ⟨b, off, rfl, l0, l1⟩ := load_fd (hr.fr (Fr.of_below HB.out NoS) (fun _ _ _ x => x)) hkl
      have hcall := hq.out wr l[k] HB.out (List.getElem_mem hkl)
      obtain ⟨y, hy⟩ : ∃ y, l[k] = y := ⟨_, rfl⟩
      have hy' : Hid (l[k]? = some y) := Lib.hid (by rw [List.getElem?_eq_getElem hkl, hy])
      rw [hy] at l0 l1 hcall
      clear hy hr
      unfold Fd.agg at hcall
      cases hqy : q y
      · rw [hqy] at hcall
        go_wp2_with (go_at_fn g; refine hcall.mono ?_; rintro e w' ⟨rfl, hb'⟩)
        go_roundw
        case rel => exact ⟨k + 1, by omega, by go_num, Lib.hid (fun j hj z hz => by
            rcases Nat.lt_or_ge j k with h | h
            · exact HT.out j h z hz
            · have : j = k := by omega
              subst this
              rw [hy'.out] at hz; injection hz with hz; rw [← hz]; exact hqy), Lib.hid hb'⟩
        case measure => simp [intOf]; omega
      · rw [hqy] at hcall
        go_wp2_with (go_at_fn g; refine hcall.mono ?_; rintro e w' ⟨rfl, hb'⟩)
        go_ret
        exact ⟨ret_int (fidx_hit q l k y hy'.out hqy HT.out).symm, hb'⟩
    · have hk' : k = l.length := by omega
      subst hk'
      go_wp2
      go_ret
      exact ⟨ret_int (fidx_miss q l HT.out).symm, HB.out⟩
theorem ba_list_beq (u v : ByteArray) : (u.toList == v.toList) = decide (u = v) := by
  by_cases h : u = v
  · subst h; simp
  · rw [ba_list_ne h, decide_eq_false h]
theorem line1_any (x : Fd) (a b : ByteArray) (X : Nat) (w : World) (hX : HasRow w X 24 #[.string a, .string b]) :
    Calls Try.prog 27 (#[x.agg] ++ #[.pointer (some ⟨X, 0, none⟩)]) w fun e w' => e = .returned (.bool (decide (x.name = a))) ∧ Below w.heap.size w w' := by
  unfold Fd.agg
  show Calls Try.prog 27 #[.agg #[.string x.name, .string x.value], .pointer (some ⟨X, 0, none⟩)] w _
  have g1 : ∀ o, (w.alloc o).cell? ⟨X, 0, none⟩ = some (.string a) := fun o => Lib.cell?_alloc_some o (hX.cell 0 _ rfl)
  have hd := ba_list_beq x.name a
  go_enter Try.func27, Try.ntmps27
  go_wp2
  go_ret
  exact ⟨rfl, (Below.refl _ w).alloc (Nat.le_refl _) _⟩
theorem ent_line1 : Ent 27 := enters_of Try.func27 (by kernel_rfl) rfl
end Go.Proofs.Ytjkimabcpamdcaa
