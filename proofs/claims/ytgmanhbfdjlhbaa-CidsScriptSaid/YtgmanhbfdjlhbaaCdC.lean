/- cids: tests on names handed over: IndexFunc, ContainsFunc; bytes.Equal; the tests of For and Token. -/
import Derived.Test.YtgmanhbfdjlhbaaCdB
namespace Go.Proofs.Ytgmanhbfdjlhbaa
open Go.RowKit

theorem mk_bytes_eq (l m : List UInt8) : ((⟨l.toArray⟩ : ByteArray).toList == (⟨m.toArray⟩ : ByteArray).toList) = decide (l = m) := by
  rw [ByteArray.toList_eq, ByteArray.toList_eq]
  by_cases h : l = m
  · rw [h]; simp
  · rw [decide_eq_false h, beq_eq_false_iff_ne]; exact h
set_option maxHeartbeats 2000000 in
theorem equal_any (l m : List UInt8) (A B : Option Addr) (n k c d : Nat) (w : World) (hl : l.length = n) (hm : m.length = k) (h1 : Rd w A (bv l)) (h2 : Rd w B (bv m)) :
    Calls Try.prog 28 #[.slice A n c, .slice B k d] w fun e w' => e = .returned (.bool (decide (l = m))) ∧ w = w' := by
  subst hl hm
  have e1 := run_conv_bytes (P := Try.prog) (w := w) (src := 22) (dst := 9) Try.underlying22 Try.underlying5 Try.underlying9 (c := c) h1
  have e2 := run_conv_bytes (P := Try.prog) (w := w) (src := 22) (dst := 9) Try.underlying22 Try.underlying5 Try.underlying9 (c := d) h2
  have hb := mk_bytes_eq l m
  obtain ⟨B1, hB1⟩ : ∃ B1, (⟨l.toArray⟩ : ByteArray) = B1 := ⟨_, rfl⟩
  obtain ⟨B2, hB2⟩ : ∃ B2, (⟨m.toArray⟩ : ByteArray) = B2 := ⟨_, rfl⟩
  obtain ⟨b, hbb⟩ : ∃ b, decide (l = m) = b := ⟨_, rfl⟩
  rw [hB1] at e1
  rw [hB2] at e2
  rw [hB1, hB2, hbb] at hb
  rw [hbb]
  clear hB1 hB2 hbb h1 h2
  go_enter Try.func28, Try.ntmps28
  go_wp2_with fail
  go_ret
  exact ⟨rfl, rfl⟩

section
variable {w w' : World} {p : Nat} {A : Option Addr} {c : Nat} {l : List Nx} {use : Int}
set_option maxRecDepth 100000 in
set_option maxHeartbeats 4000000 in
theorem idxc_any (l : List Nx) (A : Option Addr) (n c : Nat) (g : Nat) (lb : Array Value) (q : Nx → Bool) (w : World) (eg : Ent g) (hn : l.length = n) (hr : Rd w A (nxv l)) (hl : n ≤ 1000000)
    (hq : ∀ W x, Below w.heap.size w W → x ∈ l → Calls Try.prog g (#[x.agg] ++ lb) W fun e w' => e = .returned (.bool (q x)) ∧ Below w.heap.size w w') :
    Calls Try.prog 32 #[.slice A n c, .func (.func g) #[] lb] w fun e w' => e = .returned (.int .i64 (fidx q l)) ∧ Below w.heap.size w w' := by
  have EG : ∀ (args : Array Value) (w : World), (callFunc g args).run Try.prog w = .ok (.enter g args) w := eg
  replace hq := Lib.hid hq
  replace hr := Lib.hid hr
  replace hn := Lib.hid hn
  go_enter Try.func32, Try.ntmps32
  go_wp2_with fail
  go_loopw [5, 8] (fun _ i wr => ∃ k : Nat, k ≤ n ∧ i = .int .i64 k ∧ Hid (∀ j, j < k → ∀ y, l[j]? = some y → q y = false) ∧ Hid (Below w.heap.size w wr)) (fun _ i _ => n - (intOf i).toNat)
  case atStart => exact ⟨0, by omega, rfl, Lib.hid (fun j hj => absurd hj (by omega)), Lib.hid (Below.refl _ w)⟩
  case round =>
    obtain ⟨k, hk, rfl, HT, HB⟩ := hrel
    by_cases hkn : k < n
    · rename_i aa; clear aa
      have hkl : k < l.length := by rw [hn.out]; exact hkn
      obtain ⟨b, off, x0, x1, x2, x3, x4, x5, x6, x7, rfl, hcl, l0, l1, l2, l3, l4, l5, l6, l7, l8, l9, l10, l11⟩ := load_nx (hr.out.fr (Fr.of_below HB.out NoS) (fun _ _ _ x => x)) hkl
      have hcall := hq.out wr l[k] HB.out (List.getElem_mem hkl)
      unfold Nx.agg at hcall
      rw [hcl] at hcall
      clear hcl
      obtain ⟨y, hy⟩ : ∃ y, l[k] = y := ⟨_, rfl⟩
      have hy' : Hid (l[k]? = some y) := Lib.hid (by rw [List.getElem?_eq_getElem hkl, hy])
      rw [hy] at l0 l9 l10 l11 hcall
      clear hy
      obtain ⟨b1, hqy⟩ : ∃ b1, q y = b1 := ⟨_, rfl⟩
      rw [hqy] at hcall
      replace hqy := Lib.hid hqy
      obtain ⟨q0, hq0⟩ : ∃ q : Int, (y.x.seq : Int) = q := ⟨_, rfl⟩
      obtain ⟨q1, hq1⟩ : ∃ q, y.A = q := ⟨_, rfl⟩
      obtain ⟨q2, hq2⟩ : ∃ q, y.x.tok.length = q := ⟨_, rfl⟩
      obtain ⟨q3, hq3⟩ : ∃ q, y.c = q := ⟨_, rfl⟩
      obtain ⟨q4, hq4⟩ : ∃ q, y.x.path = q := ⟨_, rfl⟩
      obtain ⟨q5, hq5⟩ : ∃ q, y.x.told = q := ⟨_, rfl⟩
      rw [hq0] at l0 hcall
      rw [hq1, hq2, hq3] at l9 hcall
      rw [hq4] at l10 hcall
      rw [hq5] at l11 hcall
      clear hq0 hq1 hq2 hq3 hq4 hq5
      cases b1
      · go_wp2_with (go_at_fn g; refine hcall.mono ?_; rintro e w' ⟨rfl, hb'⟩)
        go_roundw
        case rel => exact ⟨k + 1, by omega, by go_num, Lib.hid (fun j hj z hz => by
            rcases Nat.lt_or_ge j k with h | h
            · exact HT.out j h z hz
            · have : j = k := by omega
              subst this
              rw [hy'.out] at hz; injection hz with hz; rw [← hz]; exact hqy.out), Lib.hid hb'⟩
        case measure => simp [intOf]; omega
      · go_wp2_with (go_at_fn g; refine hcall.mono ?_; rintro e w' ⟨rfl, hb'⟩)
        go_ret
        exact ⟨ret_int (fidx_hit q l k y hy'.out hqy.out HT.out).symm, hb'⟩
    · have hk' : k = n := by omega
      subst hk'
      go_wp2_with fail
      go_ret
      exact ⟨ret_int (fidx_miss q l (by rw [hn.out]; exact HT.out)).symm, HB.out⟩
theorem contc_any (l : List Nx) (A : Option Addr) (n c : Nat) (g : Nat) (lb : Array Value) (q : Nx → Bool) (w : World) (eg : Ent g) (hn : l.length = n) (hr : Rd w A (nxv l)) (hl : n ≤ 1000000)
    (hq : ∀ W x, Below w.heap.size w W → x ∈ l → Calls Try.prog g (#[x.agg] ++ lb) W fun e w' => e = .returned (.bool (q x)) ∧ Below w.heap.size w w') :
    Calls Try.prog 35 #[.slice A n c, .func (.func g) #[] lb] w fun e w' => e = .returned (.bool (l.any q)) ∧ Below w.heap.size w w' := by
  have CI := Lib.hid (idxc_any l A n c g lb q w eg hn hr hl hq)
  rw [← fidx_any q l]
  clear hq hr hn
  obtain ⟨V, hV⟩ : ∃ V, fidx q l = V := ⟨_, rfl⟩
  rw [hV] at CI ⊢
  clear hV
  go_enter Try.func35, Try.ntmps35
  go_wp2_with fail
  refine CI.out.mono ?_
  rintro e w' ⟨rfl, hb⟩
  clear CI
  replace hb := Lib.hid hb
  go_wp2_with fail
  go_ret
  exact ⟨rfl, hb.out⟩

set_option maxHeartbeats 2000000 in
theorem for1_any (n : Nx) (k : Int) (X : Nat) (w : World) (hX : w.cell? ⟨X, 0, none⟩ = some (.int .i64 k)) :
    Calls Try.prog 33 (#[n.agg] ++ #[.pointer (some ⟨X, 0, none⟩)]) w fun e w' => e = .returned (.bool (decide (n.x.path = k))) ∧ Below w.heap.size w w' := by
  obtain ⟨x0, x1, x2, x3, x4, x5, x6, x7, hc⟩ := nx12 n
  unfold Nx.agg
  rw [hc]
  show Calls Try.prog 33 #[.agg #[.int .u64 (n.x.seq : Int), .int .u8 x0, .int .u8 x1, .int .u8 x2, .int .u8 x3, .int .u8 x4, .int .u8 x5, .int .u8 x6, .int .u8 x7, .slice n.A n.x.tok.length n.c, .int .i64 n.x.path, .bool n.x.told], .pointer (some ⟨X, 0, none⟩)] w _
  clear hc
  have g1 : ∀ o, (w.alloc o).cell? ⟨X, 0, none⟩ = some (.int .i64 k) := fun o => Lib.cell?_alloc_some o hX
  have e : (n.x.path == k) = decide (n.x.path = k) := by
    by_cases h : n.x.path = k
    · rw [decide_eq_true h, h]; simp
    · rw [decide_eq_false h]; exact beq_eq_false_iff_ne.2 h
  obtain ⟨b, hb⟩ : ∃ b, decide (n.x.path = k) = b := ⟨_, rfl⟩
  rw [hb] at e ⊢
  clear hb
  go_enter Try.func33, Try.ntmps33
  go_wp2_with fail
  go_ret
  exact ⟨rfl, (Below.refl _ w).alloc (Nat.le_refl _) _⟩
theorem ent_for1 : Ent 33 := enters_of Try.func33 (by kernel_rfl) rfl
set_option maxHeartbeats 2000000 in
theorem for2_any (n : Nx) (w : World) :
    Calls Try.prog 34 (#[n.agg] ++ #[]) w fun e w' => e = .returned (.bool n.x.free) ∧ Below w.heap.size w w' := by
  obtain ⟨x0, x1, x2, x3, x4, x5, x6, x7, hc⟩ := nx12 n
  unfold Nx.agg
  rw [hc]
  show Calls Try.prog 34 #[.agg #[.int .u64 (n.x.seq : Int), .int .u8 x0, .int .u8 x1, .int .u8 x2, .int .u8 x3, .int .u8 x4, .int .u8 x5, .int .u8 x6, .int .u8 x7, .slice n.A n.x.tok.length n.c, .int .i64 n.x.path, .bool n.x.told]] w _
  clear hc
  have e : (n.x.path == -1) = n.x.free := by
    unfold Nm.free
    by_cases h : n.x.path = -1
    · rw [decide_eq_true h, h]; simp
    · rw [decide_eq_false h]; exact beq_eq_false_iff_ne.2 h
  obtain ⟨b, hb⟩ : ∃ b, n.x.free = b := ⟨_, rfl⟩
  rw [hb] at e ⊢
  clear hb
  go_enter Try.func34, Try.ntmps34
  go_wp2_with fail
  go_ret
  exact ⟨rfl, (Below.refl _ w).alloc (Nat.le_refl _) _⟩
theorem ent_for2 : Ent 34 := enters_of Try.func34 (by kernel_rfl) rfl

set_option maxRecDepth 100000 in
set_option maxHeartbeats 2000000 in
theorem tok1_any (n : Nx) (t : List UInt8) (B : Option Addr) (m d X : Nat) (w : World) (hm : t.length = m) (hX : w.cell? ⟨X, 0, none⟩ = some (.slice B m d)) (ht : Rd w B (bv t)) (hn : Rd w n.A (bv n.x.tok)) :
    Calls Try.prog 36 (#[n.agg] ++ #[.pointer (some ⟨X, 0, none⟩)]) w fun e w' => e = .returned (.bool (decide (n.x.path ≠ -1 ∧ n.x.tok ≠ [] ∧ n.x.tok = t))) ∧ Below w.heap.size w w' := by
  obtain ⟨x0, x1, x2, x3, x4, x5, x6, x7, hc⟩ := nx12 n
  unfold Nx.agg
  rw [hc]
  show Calls Try.prog 36 #[.agg #[.int .u64 (n.x.seq : Int), .int .u8 x0, .int .u8 x1, .int .u8 x2, .int .u8 x3, .int .u8 x4, .int .u8 x5, .int .u8 x6, .int .u8 x7, .slice n.A n.x.tok.length n.c, .int .i64 n.x.path, .bool n.x.told], .pointer (some ⟨X, 0, none⟩)] w _
  clear hc
  have g1 : ∀ o, (w.alloc o).cell? ⟨X, 0, none⟩ = some (.slice B m d) := fun o => Lib.cell?_alloc_some o hX
  obtain ⟨L, hL⟩ : ∃ L, n.x.tok.length = L := ⟨_, rfl⟩
  have CE := Lib.hid (fun o => equal_any n.x.tok t n.A B L m n.c d (w.alloc o) hL hm (hn.alloc o) (ht.alloc o))
  have e1 : (n.x.path != -1) = decide (n.x.path ≠ -1) := by
    by_cases h : n.x.path = -1
    · rw [h]; simp
    · rw [decide_eq_true h]; exact bne_iff_ne.2 h
  have e2 : decide ((0 : Int) < (L : Int)) = decide (n.x.tok ≠ []) := by
    rw [← hL]
    rcases n.x.tok with _ | ⟨x, r⟩
    · rfl
    · exact (decide_eq_true (show (0 : Int) < ((r.length + 1 : Nat) : Int) by omega)).trans (by simp)
  have e2' : decide (0 < L) = decide (n.x.tok ≠ []) := by rw [← e2]; simp
  have he : decide (n.x.path ≠ -1 ∧ n.x.tok ≠ [] ∧ n.x.tok = t) = (decide (n.x.path ≠ -1) && (decide (n.x.tok ≠ []) && decide (n.x.tok = t))) := by
    simp only [Bool.decide_and]
  rw [he]
  obtain ⟨b1, hb1⟩ : ∃ b, decide (n.x.path ≠ -1) = b := ⟨_, rfl⟩
  obtain ⟨b2, hb2⟩ : ∃ b, decide (n.x.tok ≠ []) = b := ⟨_, rfl⟩
  obtain ⟨b3, hb3⟩ : ∃ b, decide (n.x.tok = t) = b := ⟨_, rfl⟩
  rw [hb1] at e1
  rw [hb2] at e2 e2'
  rw [hb3] at CE
  rw [hb1, hb2, hb3, hL]
  clear he hb1 hb2 hb3 hL ht hn hm
  obtain ⟨q1, hq1⟩ : ∃ q, n.A = q := ⟨_, rfl⟩
  obtain ⟨q3, hq3⟩ : ∃ q, n.c = q := ⟨_, rfl⟩
  rw [hq1, hq3] at CE ⊢
  clear hq1 hq3
  cases b1
  · go_enter Try.func36, Try.ntmps36
    go_wp2_with fail
    go_ret
    exact ⟨rfl, (Below.refl _ w).alloc (Nat.le_refl _) _⟩
  · cases b2
    · go_enter Try.func36, Try.ntmps36
      go_wp2_with fail
      go_ret
      exact ⟨rfl, (Below.refl _ w).alloc (Nat.le_refl _) _⟩
    · go_enter Try.func36, Try.ntmps36
      go_wp2_with fail
      refine (CE.out _).mono ?_
      rintro e w2 ⟨rfl, rfl⟩
      go_wp2_with fail
      go_ret
      exact ⟨rfl, (Below.refl _ w).alloc (Nat.le_refl _) _⟩
theorem ent_tok1 : Ent 36 := enters_of Try.func36 (by kernel_rfl) rfl

set_option maxRecDepth 100000 in
set_option maxHeartbeats 4000000 in
theorem ctoken_any (h : IsCd w p A c l use) (t : List UInt8) (B : Option Addr) (m d : Nat) (hm : t.length = m) (ht : Rd w B (bv t)) :
    Calls Try.prog 23 #[.pointer (some ⟨p, 0, none⟩), .slice B m d] w fun e w' => e = .returned (.bool (ctok (l.map Nx.x) t)) ∧ Below w.heap.size w w' := by
  have hmf := mkfn
  have c0 := fun o => wrote_cell (h.alloc o).cell 0 _ rfl
  have CI : Hid (∀ o, Calls Try.prog 35 #[.slice A l.length c, .func (.func 36) #[] #[.pointer (some ⟨w.heap.size, 0, none⟩)]] (w.alloc (.cells #[.slice B m d] o)) fun e w' => e = .returned (.bool (ctok (l.map Nx.x) t)) ∧ Below w.heap.size w w') := Lib.hid (fun o => by
    have hX : (w.alloc (.cells #[.slice B m d] o)).cell? ⟨w.heap.size, 0, none⟩ = some (.slice B m d) := by rw [World.cell?_alloc_new]; rfl
    have ha := h.alloc (.cells #[.slice B m d] o)
    refine (contc_any l A _ c _ _ (fun n => decide (n.x.path ≠ -1 ∧ n.x.tok ≠ [] ∧ n.x.tok = t)) _ ent_tok1 rfl ha.rd (by have := h.small; omega) (fun W x hb hx => ?_)).mono ?_
    · refine (tok1_any x t B m d w.heap.size W hm ((hb.cell (by simp)).trans hX) ((ht.alloc _).below hb) ((ha.tok x hx).1.below hb)).mono ?_
      rintro e w' ⟨rfl, hb2⟩
      exact ⟨rfl, hb.trans (hb2.mono hb.size)⟩
    · rintro e w' ⟨rfl, hb⟩
      refine ⟨?_, ((Below.refl _ w).alloc (Nat.le_refl _) _).trans (hb.mono (by simp))⟩
      unfold ctok
      rw [List.any_map]
      rfl)
  obtain ⟨V, hV⟩ : ∃ V, ctok (l.map Nx.x) t = V := ⟨_, rfl⟩
  obtain ⟨L, hL⟩ : ∃ L, l.length = L := ⟨_, rfl⟩
  rw [hV, hL] at CI
  rw [hL] at c0
  rw [hV]
  clear h hV hL ht hm
  go_enter Try.func23, Try.ntmps23
  go_wp2_with fail
  refine (CI.out _).mono ?_
  rintro e w2 ⟨rfl, hb2⟩
  replace hb2 := Lib.hid hb2
  go_wp2_with fail
  go_ret
  exact ⟨rfl, hb2.out⟩
end
end Go.Proofs.Ytgmanhbfdjlhbaa
