/- The document's Set: Below, Add. (Printed by gen_rsE.py.) -/
import Derived.Test.YtdhdnpagdflgpaaRsD
import Derived.Test.YtdhdnpagdflgpaaKept
import Derived.Test.YtdhdnpagdflgpaaCut
import Derived.BigRegion
namespace Go.Proofs.Ytdhdnpagdflgpaa
open Go.RowKit

def nlenw (w : World) (p : Nat) : Nat := match w.cell? ⟨p, 1, none⟩ with | some (.slice _ n _) => n | _ => 0
section
variable {w w' : World} {p : Nat} {A : Option Addr} {c : Nat} {r : RN}
theorem IsRn.nlen (h : IsRn w p A c r) : nlenw w p = r.N.length := by unfold nlenw; rw [wrote_cell h.cell 1 _ rfl]; rfl
theorem drop_of (N : List Nat) (m k : Nat) (hk : k ≤ N.length) (h1 : ∀ j (hj : j < N.length), j < k → N[j] < m) (h2 : ∀ (hj : k < N.length), ¬ N[k] < m) : N.dropWhile (fun x => decide (x < m)) = N.drop k := by
  induction k generalizing N with
  | zero =>
    cases N with
    | nil => rfl
    | cons a N =>
      have e : ¬ a < m := h2 (Nat.succ_pos _)
      rw [List.dropWhile_cons_of_neg (by simpa using e)]; rfl
  | succ k ih =>
    cases N with
    | nil => simp at hk
    | cons a N =>
      have e : a < m := h1 0 (Nat.succ_pos _) (Nat.succ_pos _)
      rw [List.dropWhile_cons_of_pos (by simpa using e), List.drop_succ_cons]
      exact ih N (by simpa using hk) (fun j hj hjk => h1 (j + 1) (Nat.succ_lt_succ hj) (Nat.succ_lt_succ hjk)) (fun hj => h2 (Nat.succ_lt_succ hj))
/-- What a call leaves of it. -/
def RnPost (p : Nat) (A : Option Addr) (r : RN) (w w' : World) : Prop := ∃ A' c', IsRn w' p A' c' r ∧ Fr (· = p) w w' ∧ Next w A A'
theorem RnPost.trans {r2 : RN} {B : Option Addr} {d : Nat} {w1 w2 : World} (h1 : IsRn w1 p B d r) (f1 : Fr (· = p) w w1) (n1 : Next w A B) (h : RnPost p B r2 w1 w2) : RnPost p A r2 w w2 := by
  obtain ⟨A', c', i, f, n⟩ := h
  refine ⟨A', c', i, f1.trans f, fun a ha => ?_⟩
  rcases n a ha with ⟨b, hb, e⟩ | h2
  · rcases n1 b hb with ⟨a0, ha0, e0⟩ | h3
    · exact .inl ⟨a0, ha0, e0.trans e⟩
    · exact .inr (by omega)
  · exact .inr (by have := f1.size; omega)

set_option maxRecDepth 100000 in
set_option maxHeartbeats 8000000 in
theorem rbelow_any (h : IsRn w p A c r) (n : Nat) (hn : n ≤ 18446744073709551615) : Calls Try.prog 17 #[.pointer (some ⟨p, 0, none⟩), .int .u64 n] w fun e w' => e = .returned (.tuple #[]) ∧ RnPost p A (r.below n) w w' := by
  have c2 := wrote_cell h.cell 2 _ rfl
  have f2 := frozen_of_row _ p 2 _ _ h.cell
  obtain ⟨F, hF⟩ : ∃ F, max r.fl n = F := ⟨_, rfl⟩
  have hFb : F ≤ 18446744073709551615 := by have := h.fl; omega
  have HM := fun (ts : Array TypeId) (t : TypeId) (w : World) => run_max2u (P := Try.prog) r.fl n F (by omega) ts t w
  have hs := h.small
  have H1 : Hid (IsRn (w.setCell ⟨p, 2, none⟩ (.int .u64 F)) p A c ⟨r.most, r.N.drop 0, F⟩ ∧ Fr (· = p) w (w.setCell ⟨p, 2, none⟩ (.int .u64 F))) := Lib.hid (by
    have f : Fr (· = p) w (w.setCell ⟨p, 2, none⟩ (.int .u64 F)) := (Fr.refl (· = p) w).setCell (p := ⟨p, 2, none⟩) (fun _ => rfl) _
    rw [List.drop_zero]
    exact ⟨⟨heap_setCell_same w p 2 _ _ (.int .u64 F) h.cell, h.rd.fr f (fun _ a ha => h.ne a ha), h.cap, h.ne, fun a ha => Nat.lt_of_lt_of_le (h.lt a ha) f.size, h.small, h.tops, hFb, h.most⟩, f⟩)
  have HB : Hid (∀ k, k ≤ r.N.length → (∀ j (hj : j < r.N.length), j < k → r.N[j] < F) → (∀ (hj : k < r.N.length), ¬ r.N[k] < F) → r.below n = ⟨r.most, r.N.drop k, F⟩) := Lib.hid (fun k a b d => by
    unfold RN.below; rw [hF, drop_of r.N F k a b d])
  obtain ⟨m, hm⟩ : ∃ m, r.N.length = m := ⟨_, rfl⟩
  rw [hm] at hs
  replace hm := Lib.hid hm
  replace hF := Lib.hid hF
  clear h
  go_enter Try.func17, Try.ntmps17
  go_wp2_with fail
  go_loopw [31] (fun _ wr => ∃ (k : Nat) (B : Option Addr) (d : Nat), k ≤ m ∧ Hid (IsRn wr p B d ⟨r.most, r.N.drop k, F⟩ ∧ Fr (· = p) w wr ∧ Next w A B ∧ ∀ j (hj : j < r.N.length), j < k → r.N[j] < F)) (fun _ wr => nlenw wr p)
  case atStart => exact ⟨0, A, c, by omega, Lib.hid ⟨H1.out.1, H1.out.2, Next.refl _ _, fun j hj h => by omega⟩⟩
  case round =>
    clear H1
    obtain ⟨k, B, d, hk, HS⟩ := hrel
    have d1 : wr.cell? ⟨p, 1, none⟩ = some (.slice B (r.N.drop k).length d) := wrote_cell HS.out.1.cell 1 _ rfl
    have d2 := wrote_cell HS.out.1.cell 2 _ rfl
    have e1 := frozen_of_row _ p 1 _ _ HS.out.1.cell
    have hcap := HS.out.1.cap
    simp only [List.length_drop, hm.out] at hcap
    rw [List.length_drop, hm.out] at d1
    obtain ⟨q, hq⟩ : ∃ q, m - k = q := ⟨_, rfl⟩
    rw [hq] at d1 hcap
    rcases Nat.eq_zero_or_pos q with h0 | h0
    · subst h0
      have hfin : Hid (r.below n = ⟨r.most, r.N.drop k, F⟩) := Lib.hid (HB.out k (by rw [hm.out]; exact hk) HS.out.2.2.2 (fun hj => by have := hm.out; omega))
      go_wp2_with fail
      go_big_quiet (fail)
      go_wp2_with fail
      go_end0
      rw [hfin.out]
      exact ⟨rfl, B, d, HS.out.1.drewN _, HS.out.2.1.drewN _, HS.out.2.2.1⟩
    · have hqd : decide ((0 : Int) < (q : Int)) = true := decide_eq_true (by omega)
      have hql : (0 : Int) < (q : Int) := by omega
      have hkl : k < r.N.length := by have := hm.out; omega
      obtain ⟨b, off, rfl, g0⟩ := HS.out.1.at_ (k := 0) (by simp only [List.length_drop]; have := hm.out; omega)
      simp only [Nat.add_zero, List.getElem_drop] at g0
      obtain ⟨y, hy⟩ : ∃ y, r.N[k] = y := ⟨_, rfl⟩
      rw [hy] at g0
      by_cases hyF : y < F
      · have hyd : decide ((y : Int) < (F : Int)) = true := decide_eq_true (by omega)
        obtain ⟨X, K0, qX⟩ := cut_l (P := Try.prog) Try.underlying41 infoU (some ⟨b, off, none⟩) q d 1 (by omega) (by omega)
        have K : ∀ w : World, (Instr.sliceAt 41 (.slice (some ⟨b, off, none⟩) q d) (some (.int .i64 1)) none none).run Try.prog w = .ok (.slice X (q - 1) (d - 1)) w := fun w => K0 w
        have hq1 : q - 1 = m - (k + 1) := by omega
        have HN : Hid (∀ mm, IsRn ((wr.drewN mm).setCell ⟨p, 1, none⟩ (.slice X (q - 1) (d - 1))) p X (d - 1) ⟨r.most, r.N.drop (k + 1), F⟩ ∧ Fr (· = p) w ((wr.drewN mm).setCell ⟨p, 1, none⟩ (.slice X (q - 1) (d - 1))) ∧ Next w A X ∧ ∀ j (hj : j < r.N.length), j < k + 1 → r.N[j] < F) := Lib.hid (fun mm => by
          have I := HS.out.1.drewN mm
          have f : Fr (· = p) (wr.drewN mm) ((wr.drewN mm).setCell ⟨p, 1, none⟩ (.slice X (q - 1) (d - 1))) := (Fr.refl (· = p) _).setCell (p := ⟨p, 1, none⟩) (fun _ => rfl) _
          have hXb : ∀ a, X = some a → a.block = b := fun a ha => by
            obtain ⟨a0, h1, h2⟩ := qX.blk a ha
            injection h1 with h1
            rw [← h2, ← h1]
          have hrd : Rd (wr.drewN mm) X (nv (r.N.drop (k + 1))) := by
            have := qX.rd (wr.drewN mm) (nv (r.N.drop k)) (by simp; have := hm.out; omega) (by simp; have := hm.out; omega) I.rd
            rw [← nv_drop, List.drop_drop, List.take_of_length_le (by simp; have := hm.out; omega)] at this
            exact this
          refine ⟨⟨?_, hrd.fr f (fun _ a ha => by rw [hXb a ha]; exact I.ne _ rfl), ?_, fun a ha => by rw [hXb a ha]; exact I.ne _ rfl, fun a ha => by rw [hXb a ha]; exact Nat.lt_of_lt_of_le (I.lt _ rfl) f.size, ?_, fun x hx => I.tops x ?_, hFb, I.most⟩, (HS.out.2.1.drewN mm).trans f, fun a ha => ?_, fun j hj hjk => ?_⟩
          · have := heap_setCell_same _ p 1 _ _ (.slice X (q - 1) (d - 1)) I.cell
            simp only [List.length_drop, hm.out, ← hq1]
            exact this
          · simp only [List.length_drop, hm.out]; omega
          · simp only [List.length_drop, hm.out]; omega
          · simp only at hx ⊢
            rw [← List.drop_drop] at hx
            exact List.mem_of_mem_drop hx
          · rcases HS.out.2.2.1 ⟨b, off, none⟩ rfl with ⟨b0, hb0, e⟩ | h2
            · exact .inl ⟨b0, hb0, by rw [hXb a ha]; exact e⟩
            · exact .inr (by rw [hXb a ha]; exact h2)
          · by_cases e : j = k
            · subst e; rw [hy]; exact hyF
            · exact HS.out.2.2.2 j hj (by omega))
        have hnl := Lib.hid HS.out.1.nlen
        replace hyF := Lib.hid hyF
        replace hy := Lib.hid hy
        have HS' := HS
        clear HS qX K0 hq1
        go_wp2_with fail
        go_big_quiet (fail)
        go_wp2_with fail
        go_roundw
        case rel => exact ⟨k + 1, X, d - 1, by omega, Lib.hid (HN.out _)⟩
        case measure =>
          rw [(HN.out _).1.nlen, hnl.out]
          simp only [List.length_drop, hm.out]; omega
      · have hyd : decide ((y : Int) < (F : Int)) = false := decide_eq_false (by omega)
        have hfin : Hid (r.below n = ⟨r.most, r.N.drop k, F⟩) := Lib.hid (HB.out k (by rw [hm.out]; exact hk) HS.out.2.2.2 (fun hj => by rw [hy]; exact hyF))
        replace hyF := Lib.hid hyF
        replace hy := Lib.hid hy
        go_wp2_with fail
        go_big_quiet (fail)
        go_wp2_with fail
        go_end0
        rw [hfin.out]
        exact ⟨rfl, _, d, HS.out.1.drewN _, HS.out.2.1.drewN _, HS.out.2.2.1⟩

theorem nat_lt (N : List Nat) (hN : N.Pairwise (· < ·)) (n j : Nat) (hj : j < N.length) : j < nat_ N n ↔ N[j] ≤ n := by
  induction N generalizing j with
  | nil => simp at hj
  | cons a N ih =>
    rw [List.pairwise_cons] at hN
    by_cases ha : a ≤ n
    · have e : nat_ (a :: N) n = nat_ N n + 1 := by unfold nat_; rw [List.takeWhile_cons_of_pos (by simpa using ha)]; rfl
      rw [e]
      cases j with
      | zero => exact ⟨fun _ => ha, fun _ => Nat.succ_pos _⟩
      | succ j => rw [Nat.succ_lt_succ_iff]; exact ih hN.2 j (by simpa using hj)
    · have e : nat_ (a :: N) n = 0 := by unfold nat_; rw [List.takeWhile_cons_of_neg (by simpa using ha)]; rfl
      rw [e]
      constructor
      · intro h; omega
      · intro h
        cases j with
        | zero => exact absurd h ha
        | succ j =>
          have h1 : N[j]'(by simpa using hj) ≤ n := h
          have := hN.1 _ (List.getElem_mem (by simpa using hj : j < N.length))
          omega

set_option maxRecDepth 100000 in
set_option maxHeartbeats 4000000 in
theorem radd_no (h : IsRn w p A c r) (n : Nat) (hn : 4611686018427387903 < n ∨ (n ≤ 4611686018427387903 ∧ r.has n = true)) : Calls Try.prog 18 #[.pointer (some ⟨p, 0, none⟩), .int .u64 n] w fun e w' => e = .returned (.bool false) ∧ w = w' := by
  rcases hn with h1 | ⟨h1, h2⟩
  · have b1 : decide ((4611686018427387903 : Int) < (n : Int)) = true := decide_eq_true (by omega)
    have b2 : (4611686018427387903 : Int) < (n : Int) := by omega
    clear h
    go_enter Try.func18, Try.ntmps18
    go_wp2_with fail
    go_ret
    exact ⟨rfl, rfl⟩
  · have b2 : (n : Int) ≤ (4611686018427387903 : Int) := by omega
    have CH := Lib.hid (rhas_any h n true h2)
    clear h h1 h2
    go_enter Try.func18, Try.ntmps18
    go_wp2_with fail
    refine CH.out.mono ?_
    rintro e w' ⟨rfl, rfl⟩
    go_wp2_with fail
    go_ret
    exact ⟨rfl, rfl⟩

set_option maxRecDepth 100000 in
set_option maxHeartbeats 16000000 in
theorem radd_yes (h : IsRn w p A c r) (hasc : r.N.Pairwise (· < ·)) (n : Nat) (hn : n ≤ 4611686018427387903) (hh : r.has n = false) (hlen : r.N.length < 100) : Calls Try.prog 18 #[.pointer (some ⟨p, 0, none⟩), .int .u64 n] w fun e w' => e = .returned (.bool true) ∧ RnPost p A (r.add n) w w' := by
  have b2 : (n : Int) ≤ (4611686018427387903 : Int) := by omega
  have CH := Lib.hid (rhas_any h n false hh)
  have c1 : w.cell? ⟨p, 1, none⟩ = some (.slice A r.N.length c) := wrote_cell h.cell 1 _ rfl
  have hcap := h.cap
  have H := Lib.hid h
  have HL := Lib.hid (nat_lt r.N hasc n)
  have HI := Lib.hid (nins_ok hasc (by unfold RN.has at hh; rw [Bool.or_eq_false_iff] at hh; exact hh.1))
  have hnl : nat_ r.N n ≤ r.N.length := (List.takeWhile_sublist _).length_le
  obtain ⟨m, hm⟩ : ∃ m, r.N.length = m := ⟨_, rfl⟩
  obtain ⟨k0, hk0⟩ : ∃ k0, nat_ r.N n = k0 := ⟨_, rfl⟩
  rw [hm] at c1 hcap hlen hnl
  rw [hk0] at hnl HL
  replace hm := Lib.hid hm
  replace hk0 := Lib.hid hk0
  obtain ⟨iu, hiu, hy0, hy1, hy2⟩ := info_parts infoU
  clear h hh hasc
  go_enter Try.func18, Try.ntmps18
  go_wp2_with fail
  refine CH.out.mono ?_
  rintro e wr ⟨rfl, rfl⟩
  clear CH
  go_wp2_with fail
  go_loop [5] (fun i => ∃ k : Nat, k0 ≤ k ∧ k ≤ m ∧ i = .int .i64 k) (fun i => (intOf i).toNat)
  case atStart => exact ⟨m, by omega, by omega, rfl⟩
  case round =>
    obtain ⟨k, hkk, hk, rfl⟩ := hrel
    by_cases hgt : k0 < k
    · obtain ⟨j, rfl⟩ : ∃ j, k = j + 1 := ⟨k - 1, by omega⟩
      have hjl : j < r.N.length := by rw [hm.out]; omega
      obtain ⟨b, off, rfl, g0⟩ := H.out.at_ hjl
      have hgt2 : n < r.N[j] := by
        have := HL.out j hjl
        omega
      obtain ⟨y, hy⟩ : ∃ y, r.N[j] = y := ⟨_, rfl⟩
      rw [hy] at g0 hgt2
      have e1 : ((j + 1 : Nat) : Int) - 1 = (j : Int) := by omega
      have e2 : (n : Int) < (y : Int) := by omega
      have e3 : (0 : Int) < ((j + 1 : Nat) : Int) := by omega
      have e4 : (j : Int) < (m : Int) := by omega
      have e5 : (0 : Int) ≤ (j : Int) := by omega
      clear hy
      go_wp2_with fail
      go_round
      case rel => exact ⟨j, by omega, by omega, by go_num⟩
      case measure => simp [intOf] <;> omega
    · obtain rfl : k = k0 := by omega
      have hrest : (k = 0) ∨ ∃ j, k = j + 1 ∧ ∃ hj : j < r.N.length, r.N[j] ≤ n := by
        rcases Nat.eq_zero_or_pos k with h0 | h0
        · exact .inl h0
        · refine .inr ⟨k - 1, by omega, by rw [hm.out]; omega, (HL.out (k - 1) (by rw [hm.out]; omega)).1 (by omega)⟩
      go_upto_region 4 with fail
      go_cut [32] from 19 to 31 (fun x wx => x = .bool false ∧ w = wx)
      case first =>
        rcases hrest with h0 | ⟨j, hj, hjl, hle⟩
        · subst h0
          go_wp2_with fail
          go_meet
          exact ⟨rfl, rfl⟩
        · subst hj
          obtain ⟨b, off, rfl, g0⟩ := H.out.at_ hjl
          obtain ⟨y, hy⟩ : ∃ y, r.N[j] = y := ⟨_, rfl⟩
          rw [hy] at g0 hle
          have e1 : ((j + 1 : Nat) : Int) - 1 = (j : Int) := by omega
          have e2 : (y : Int) ≤ (n : Int) := by omega
          have e2' : decide ((n : Int) < (y : Int)) = false := decide_eq_false (by omega)
          have e3 : (0 : Int) < ((j + 1 : Nat) : Int) := by omega
          have e4 : (j : Int) < (m : Int) := by omega
          have e5 : (0 : Int) ≤ (j : Int) := by omega
          clear hy
          go_wp2_with fail
          go_meet
          exact ⟨by rw [decide_eq_false (by omega)], rfl⟩
      case rest =>
        obtain ⟨rfl, rfl⟩ := hcut
        clear hrest
        go_upto_region 6 with fail
        go_cut [] from 35 to 54 (fun wx => Hid (∃ B d, IsRn wx p B d (r.add1 n) ∧ Fr (· = p) w wx ∧ Next w A B))
        case first =>
          obtain ⟨q, hq⟩ : ∃ q, k + q = m := ⟨m - k, by omega⟩
          have K7 := cut_h (P := Try.prog) Try.underlying41 infoU A m c k (by omega)
          obtain ⟨X, K17, qX⟩ := cut_l (P := Try.prog) Try.underlying41 infoU A m c k (by omega) (by omega)
          rw [show m - k = q from by omega] at K17
          have hkin : (k : Int) ≤ (c : Int) := by omega
          have hS0 : w.drew.cell? ⟨p, 1, none⟩ = some (.slice A m c) := c1
          have B0 : Hid (Below w.heap.size w w.drew) := Lib.hid (Still.drew w).below
          have HS : Hid (∀ W, Below w.heap.size w W → W.cell? ⟨p, 1, none⟩ = some (.slice A m c)) := Lib.hid (fun W b => by rw [b.cell (p := ⟨p, 1, none⟩) H.out.plt]; exact c1)
          have HS2 : Hid (∀ W, Below w.heap.size w W → W.cell? ⟨p, 1, none⟩ = some (.slice A m c) ∧ W.frozen? ⟨p, 1, none⟩ = false) := Lib.hid (fun W b => ⟨HS.out W b, frozen_of_row W p 1 _ _ (H.out.below b).cell⟩)
          have R7 : Hid (∀ W, Below w.heap.size w W → Rd W A (nv (r.N.take k))) := Lib.hid (fun W b => by rw [nv_take]; exact (H.out.rd.below b).take k)
          have hl7 : Hid ((nv (r.N.take k)).length = k) := Lib.hid (by simp; have := hm.out; omega)
          have hl17 : Hid ((nv (r.N.drop k)).length = q) := Lib.hid (by simp; have := hm.out; omega)
          have R17 : Hid (∀ W, Below w.heap.size w W → Rd W X (nv (r.N.drop k))) := Lib.hid (fun W b => by
            have := qX.rd W (nv r.N) (by simp [hm.out]) (by simp [hm.out]; omega) (H.out.rd.below b)
            rw [← nv_drop, List.take_of_length_le (by simp [hm.out])] at this
            exact this)
          have hfin : Hid (∀ A17 c17 w17, w17.ownsRow w.heap.size 29 1 (.slice A17 (k + 1 + q) c17) (k + 1 + q) (nv (r.N.take k) ++ [.int .u64 n] ++ nv (r.N.drop k)) → Below w.heap.size w w17 → ∃ B d, IsRn (w17.setCell ⟨p, 1, none⟩ (.slice A17 (k + 1 + q) c17)) p B d (r.add1 n) ∧ Fr (· = p) w (w17.setCell ⟨p, 1, none⟩ (.slice A17 (k + 1 + q) c17)) ∧ Next w A B) := Lib.hid (fun A17 c17 w17 o b => by
            have hins : nv (r.N.take k) ++ [.int .u64 n] ++ nv (r.N.drop k) = nv (nins r.N n) := by
              unfold nins; rw [hk0.out, nv_append, List.append_assoc]; rfl
            rw [hins] at o
            have hil : (nins r.N n).length = k + 1 + q := by rw [nins_len, hm.out]; omega
            have I := H.out.below b
            have f : Fr (· = p) w17 (w17.setCell ⟨p, 1, none⟩ (.slice A17 (k + 1 + q) c17)) := (Fr.refl (· = p) w17).setCell (p := ⟨p, 1, none⟩) (fun _ => rfl) _
            have hA17 : ∀ a, A17 = some a → w.heap.size ≤ a.block ∧ a.block < w17.heap.size := fun a ha => o.lt _ (by rw [ha]; rfl)
            obtain ⟨_, _, hsh, hc1, hc2⟩ := own_shape w17 o
            injection hsh with _ _ hsc
            subst hsc
            have hpl := H.out.plt
            refine ⟨A17, c17, ⟨?_, ?_, ?_, fun a ha => by have := hA17 a ha; omega, fun a ha => by have := hA17 a ha; have := f.size; omega, ?_, fun x hx => ?_, I.fl, I.most⟩, (Fr.of_below b _).trans f, fun a ha => .inr (hA17 a ha).1⟩
            · have := heap_setCell_same _ p 1 _ _ (.slice A17 (k + 1 + q) c17) I.cell
              simp only [RN.add1, hil]
              exact this
            · simp only [RN.add1]
              exact (Rd.of_own o).fr f (fun _ a ha => by have := hA17 a ha; omega)
            · simp only [RN.add1, hil]; exact ⟨hc1, by simpa [maxLen] using hc2⟩
            · simp only [RN.add1, hil]; omega
            · simp only [RN.add1] at hx
              have := (rmemN_iff _ _).2 hx
              rw [HI.out.2] at this
              rw [Bool.or_eq_true] at this
              rcases this with h1 | h1
              · exact H.out.tops x ((rmemN_iff _ _).1 h1)
              · have : x = n := of_decide_eq_true h1
                omega)
          have hqm : q ≤ 100 := by omega
          have hk100 : k ≤ 100 := by omega
          clear qX HL hgt hkk hnl
          refine wp_region_kept (k := 20) (S := fun w' => w'.cell? ⟨p, 1, none⟩ = some (.slice A m c)) (by kernel_rfl) ?_
          refine KeptTill.takeP (i := 0) (oi := { dst := Option.some 35, op := Go.Op.move (Go.Operand.tmp 0), type := 43, pos := "ref.go:54", after := #[], guard := Option.none }) (v := ?v0) (by rfl) (by kernel_rfl) (by kernel_rfl) (by kernel_rfl) (by rfl) (by intro c d u a w h; cases d <;> exact h) (Or.inl ⟨by rfl, ?hy0⟩) (fun _ => hS0) ?rest0
          case hy0 => intro w _; go_simp; (try with_reducible rfl)
          simp only [Act.put, List.setIfInBounds_toArray, List.set_cons_zero, List.set_cons_succ]
          refine KeptTill.takeP (i := 1) (oi := { dst := Option.some 36, op := Go.Op.move (Go.Operand.tmp 0), type := 43, pos := "ref.go:54", after := #[], guard := Option.none }) (v := ?v1) (by rfl) (by kernel_rfl) (by kernel_rfl) (by kernel_rfl) (by rfl) (by intro c d u a w h; cases d <;> exact h) (Or.inl ⟨by rfl, ?hy1⟩) (fun _ => hS0) ?rest1
          case hy1 => intro w _; go_simp; (try with_reducible rfl)
          simp only [Act.put, List.setIfInBounds_toArray, List.set_cons_zero, List.set_cons_succ]
          refine KeptTill.takeP (i := 2) (oi := { dst := Option.some 37, op := Go.Op.nilCheck (Go.Operand.tmp 36), type := 0, pos := "ref.go:54", after := #[{ on := 1, ground := Go.Ground.data }], guard := Option.none }) (v := ?v2) (by rfl) (by kernel_rfl) (by kernel_rfl) (by kernel_rfl) (by rfl) (by intro c d u a w h; cases d <;> exact h) (Or.inl ⟨by rfl, ?hy2⟩) (fun _ => hS0) ?rest2
          case hy2 => intro w _; go_simp; (try with_reducible rfl)
          simp only [Act.put, List.setIfInBounds_toArray, List.set_cons_zero, List.set_cons_succ]
          refine KeptTill.takeP (i := 3) (oi := { dst := Option.some 38, op := Go.Op.fieldAddr 45 (Go.Operand.tmp 37) 1, type := 0, pos := "ref.go:54", after := #[{ on := 2, ground := Go.Ground.data }], guard := Option.none }) (v := ?v3) (by rfl) (by kernel_rfl) (by kernel_rfl) (by kernel_rfl) (by rfl) (by intro c d u a w h; cases d <;> exact h) (Or.inl ⟨by rfl, ?hy3⟩) (fun _ => hS0) ?rest3
          case hy3 => intro w _; go_simp; (try with_reducible rfl)
          simp only [Act.put, List.setIfInBounds_toArray, List.set_cons_zero, List.set_cons_succ]
          refine KeptTill.take (i := 4) (oi := { dst := Option.some 39, op := Go.Op.load 41 (Go.Operand.tmp 38), type := 41, pos := "ref.go:54", after := #[{ on := 3, ground := Go.Ground.data }], guard := Option.none }) (v := ?v4) (by rfl) (by kernel_rfl) (by kernel_rfl) (by kernel_rfl) (by rfl) (by rfl) (by kernel_rfl) (by intro c d u a w h; cases d <;> exact h) (Or.inl ⟨by rfl, ?hy4⟩) hS0 ?rest4
          case hy4 => intro w e4; go_simp; (try with_reducible rfl)
          simp only [Act.put, List.setIfInBounds_toArray, List.set_cons_zero, List.set_cons_succ]
          refine KeptTill.takeP (i := 5) (oi := { dst := Option.some 40, op := Go.Op.move (Go.Operand.tmp 5), type := 3, pos := "ref.go:54", after := #[], guard := Option.none }) (v := ?v5) (by rfl) (by kernel_rfl) (by kernel_rfl) (by kernel_rfl) (by rfl) (by intro c d u a w h; cases d <;> exact h) (Or.inl ⟨by rfl, ?hy5⟩) (fun _ => hS0) ?rest5
          case hy5 => intro w _; go_simp; (try with_reducible rfl)
          simp only [Act.put, List.setIfInBounds_toArray, List.set_cons_zero, List.set_cons_succ]
          refine KeptTill.takeP (i := 6) (oi := { dst := Option.some 41, op := Go.Op.slice 41 (Go.Operand.tmp 39) Option.none (Option.some (Go.Operand.tmp 40)) Option.none, type := 41, pos := "ref.go:54", after := #[{ on := 4, ground := Go.Ground.data }, { on := 5, ground := Go.Ground.data }], guard := Option.none }) (v := ?v6) (by rfl) (by kernel_rfl) (by kernel_rfl) (by kernel_rfl) (by rfl) (by intro c d u a w h; cases d <;> exact h) (Or.inl ⟨by rfl, ?hy6⟩) (fun _ => hS0) ?rest6
          case hy6 => intro w _; go_simp; (try with_reducible rfl)
          simp only [Act.put, List.setIfInBounds_toArray, List.set_cons_zero, List.set_cons_succ]
          refine KeptTill.takeP (i := 8) (oi := { dst := Option.some 43, op := Go.Op.move (Go.Operand.tmp 1), type := 29, pos := "ref.go:54", after := #[], guard := Option.none }) (v := ?v8) (by rfl) (by kernel_rfl) (by kernel_rfl) (by kernel_rfl) (by rfl) (by intro c d u a w h; cases d <;> exact h) (Or.inl ⟨by rfl, ?hy8⟩) (fun _ => hS0) ?rest8
          case hy8 => intro w _; go_simp; (try with_reducible rfl)
          simp only [Act.put, List.setIfInBounds_toArray, List.set_cons_zero, List.set_cons_succ]
          refine KeptTill.takeP (i := 11) (oi := { dst := Option.some 46, op := Go.Op.move (Go.Operand.tmp 0), type := 43, pos := "ref.go:54", after := #[], guard := Option.none }) (v := ?v11) (by rfl) (by kernel_rfl) (by kernel_rfl) (by kernel_rfl) (by rfl) (by intro c d u a w h; cases d <;> exact h) (Or.inl ⟨by rfl, ?hy11⟩) (fun _ => hS0) ?rest11
          case hy11 => intro w _; go_simp; (try with_reducible rfl)
          simp only [Act.put, List.setIfInBounds_toArray, List.set_cons_zero, List.set_cons_succ]
          refine KeptTill.takeP (i := 12) (oi := { dst := Option.some 47, op := Go.Op.nilCheck (Go.Operand.tmp 46), type := 0, pos := "ref.go:54", after := #[{ on := 11, ground := Go.Ground.data }], guard := Option.none }) (v := ?v12) (by rfl) (by kernel_rfl) (by kernel_rfl) (by kernel_rfl) (by rfl) (by intro c d u a w h; cases d <;> exact h) (Or.inl ⟨by rfl, ?hy12⟩) (fun _ => hS0) ?rest12
          case hy12 => intro w _; go_simp; (try with_reducible rfl)
          simp only [Act.put, List.setIfInBounds_toArray, List.set_cons_zero, List.set_cons_succ]
          refine KeptTill.takeP (i := 13) (oi := { dst := Option.some 48, op := Go.Op.fieldAddr 45 (Go.Operand.tmp 47) 1, type := 0, pos := "ref.go:54", after := #[{ on := 12, ground := Go.Ground.data }], guard := Option.none }) (v := ?v13) (by rfl) (by kernel_rfl) (by kernel_rfl) (by kernel_rfl) (by rfl) (by intro c d u a w h; cases d <;> exact h) (Or.inl ⟨by rfl, ?hy13⟩) (fun _ => hS0) ?rest13
          case hy13 => intro w _; go_simp; (try with_reducible rfl)
          simp only [Act.put, List.setIfInBounds_toArray, List.set_cons_zero, List.set_cons_succ]
          refine KeptTill.take (i := 14) (oi := { dst := Option.some 49, op := Go.Op.load 41 (Go.Operand.tmp 48), type := 41, pos := "ref.go:54", after := #[{ on := 13, ground := Go.Ground.data }], guard := Option.none }) (v := ?v14) (by rfl) (by kernel_rfl) (by kernel_rfl) (by kernel_rfl) (by rfl) (by rfl) (by kernel_rfl) (by intro c d u a w h; cases d <;> exact h) (Or.inl ⟨by rfl, ?hy14⟩) hS0 ?rest14
          case hy14 => intro w e4; go_simp; (try with_reducible rfl)
          simp only [Act.put, List.setIfInBounds_toArray, List.set_cons_zero, List.set_cons_succ]
          refine KeptTill.takeP (i := 15) (oi := { dst := Option.some 50, op := Go.Op.move (Go.Operand.tmp 5), type := 3, pos := "ref.go:54", after := #[], guard := Option.none }) (v := ?v15) (by rfl) (by kernel_rfl) (by kernel_rfl) (by kernel_rfl) (by rfl) (by intro c d u a w h; cases d <;> exact h) (Or.inl ⟨by rfl, ?hy15⟩) (fun _ => hS0) ?rest15
          case hy15 => intro w _; go_simp; (try with_reducible rfl)
          simp only [Act.put, List.setIfInBounds_toArray, List.set_cons_zero, List.set_cons_succ]
          refine KeptTill.takeP (i := 16) (oi := { dst := Option.some 51, op := Go.Op.slice 41 (Go.Operand.tmp 49) (Option.some (Go.Operand.tmp 50)) Option.none Option.none, type := 41, pos := "ref.go:54", after := #[{ on := 14, ground := Go.Ground.data }, { on := 15, ground := Go.Ground.data }], guard := Option.none }) (v := ?v16) (by rfl) (by kernel_rfl) (by kernel_rfl) (by kernel_rfl) (by rfl) (by intro c d u a w h; cases d <;> exact h) (Or.inl ⟨by rfl, ?hy16⟩) (fun _ => hS0) ?rest16
          case hy16 => intro w _; go_simp; (try with_reducible rfl)
          simp only [Act.put, List.setIfInBounds_toArray, List.set_cons_zero, List.set_cons_succ]
          refine KeptTill.two (i := 7) (j := 9) (o := { dst := Option.some 42, op := Go.Op.call { callee := Go.Callee.builtin Go.Builtin.append, args := #[Go.Operand.const (Go.Value.slice Option.none 0 0), Go.Operand.tmp 41], argTypes := #[41, 41] }, type := 41, pos := "ref.go:54", after := #[{ on := 6, ground := Go.Ground.data }], guard := Option.none }) (u := { dst := Option.some 44, op := Go.Op.buildSlice 41 1 #[(0, Go.Operand.tmp 43)], type := 41, pos := "ref.go:54", after := #[{ on := 8, ground := Go.Ground.data }], guard := Option.none }) (by kernel_rfl) (by rfl) (by rfl) (by rfl) (by rfl) ?_ ?_
          · intro K hK
            refine wp_app _ (.const (.slice none 0 0)) (.tmp 41) 41 rfl w.heap.size 29 iu _ 8 Try.underlying41 hiu hy0 hy1 hy2 rfl (.slice none 0 0) 0 [] (by rfl) (World.ownsRow_nil _ _ _ _) A k c (nv (r.N.take k)) (by rfl) hl7.out (R7.out _ B0.out) (nv_one _) (by unfold maxLen; omega) (by omega) B0.out.size ?_
            intro A7 c7 w7 ho7 hg7 _
            have B7 : Hid (Below w.heap.size w w7) := Lib.hid (B0.out.grown hg7 B0.out.size (fun j hj => by simp [Value.ownBlock] at hj))
            simp only [Nat.zero_add, List.nil_append] at ho7 ⊢
            refine hK.out _ _ (fun _ => (HS.out _ B7.out)) ?_
            clear hK K
            try simp only [Act.put, List.setIfInBounds_toArray, List.set_cons_zero, List.set_cons_succ]
            refine KeptTill.one (i := 9) (o := { dst := Option.some 44, op := Go.Op.buildSlice 41 1 #[(0, Go.Operand.tmp 43)], type := 41, pos := "ref.go:54", after := #[{ on := 8, ground := Go.Ground.data }], guard := Option.none }) (by kernel_rfl) (by rfl) (by rfl) ?_
            intro K hK
            go_wp2_with fail
            have B9 : Hid (Below w.heap.size w (w7.alloc (.cells #[.int .u64 n] 29))) := Lib.hid (B7.out.trans (((Below.refl _ _).alloc (Nat.le_refl _) _).mono B7.out.size))
            have R9 := Rd.fresh w7 [.int .u64 n] 29
            have ho7b := ho7.alloc (.cells #[.int .u64 n] 29)
            refine hK.out _ _ (fun _ => (HS.out _ B9.out)) ?_
            clear hK K
            try simp only [Act.put, List.setIfInBounds_toArray, List.set_cons_zero, List.set_cons_succ]
            refine KeptTill.one (i := 10) (o := { dst := Option.some 45, op := Go.Op.call { callee := Go.Callee.builtin Go.Builtin.append, args := #[Go.Operand.tmp 42, Go.Operand.tmp 44], argTypes := #[41, 41] }, type := 41, pos := "ref.go:54", after := #[{ on := 7, ground := Go.Ground.data }, { on := 9, ground := Go.Ground.data }, { on := 7, ground := Go.Ground.chain }], guard := Option.none }) (by kernel_rfl) (by rfl) (by rfl) ?_
            intro K hK
            refine wp_app _ (.tmp 42) (.tmp 44) 41 rfl w.heap.size 29 iu _ 8 Try.underlying41 hiu hy0 hy1 hy2 rfl _ k (nv (r.N.take k)) (by rfl) ho7b _ 1 1 [.int .u64 n] (by rfl) rfl (by first | exact R9 | (have q := R9; simp at q; exact q)) (by intro u hu; rw [List.mem_singleton.1 hu]; rfl) (by unfold maxLen; omega) (by omega) B9.out.size ?_
            intro A10 c10 w10 ho10 hg10 _
            have B10 : Hid (Below w.heap.size w w10) := Lib.hid (B9.out.grown hg10 B9.out.size (fun j hj => (ho7b.lt j hj).1))
            refine hK.out _ _ (fun _ => (HS.out _ B10.out)) ?_
            clear hK K
            try simp only [Act.put, List.setIfInBounds_toArray, List.set_cons_zero, List.set_cons_succ]
            refine KeptTill.one (i := 17) (o := { dst := Option.some 52, op := Go.Op.call { callee := Go.Callee.builtin Go.Builtin.append, args := #[Go.Operand.tmp 45, Go.Operand.tmp 51], argTypes := #[41, 41] }, type := 41, pos := "ref.go:54", after := #[{ on := 10, ground := Go.Ground.data }, { on := 16, ground := Go.Ground.data }, { on := 10, ground := Go.Ground.chain }], guard := Option.none }) (by kernel_rfl) (by rfl) (by rfl) ?_
            intro K hK
            refine wp_app _ (.tmp 45) (.tmp 51) 41 rfl w.heap.size 29 iu _ 8 Try.underlying41 hiu hy0 hy1 hy2 rfl _ (k + 1) (nv (r.N.take k) ++ [.int .u64 n]) (by rfl) ho10 X q (c - k) (nv (r.N.drop k)) (by rfl) hl17.out (R17.out _ B10.out) (nv_one _) (by unfold maxLen; omega) (by omega) B10.out.size ?_
            intro A17 c17 w17 ho17 hg17 _
            have B17 : Hid (Below w.heap.size w w17) := Lib.hid (B10.out.grown hg17 B10.out.size (fun j hj => (ho10.lt j hj).1))
            obtain ⟨d1, d2⟩ := HS2.out _ B17.out
            refine hK.out _ _ (fun _ => (HS.out _ B17.out)) ?_
            clear hK K
            try simp only [Act.put, List.setIfInBounds_toArray, List.set_cons_zero, List.set_cons_succ]
            refine KeptTill.one (i := 18) (o := { dst := Option.some 53, op := Go.Op.nilCheck (Go.Operand.tmp 35), type := 0, pos := "ref.go:54", after := #[{ on := 0, ground := Go.Ground.data }, { on := 0, ground := Go.Ground.phase }, { on := 1, ground := Go.Ground.phase }, { on := 2, ground := Go.Ground.phase }, { on := 3, ground := Go.Ground.phase }, { on := 4, ground := Go.Ground.phase }, { on := 5, ground := Go.Ground.phase }, { on := 6, ground := Go.Ground.phase }, { on := 7, ground := Go.Ground.phase }, { on := 8, ground := Go.Ground.phase }, { on := 9, ground := Go.Ground.phase }, { on := 10, ground := Go.Ground.phase }, { on := 11, ground := Go.Ground.phase }, { on := 12, ground := Go.Ground.phase }, { on := 13, ground := Go.Ground.phase }, { on := 14, ground := Go.Ground.phase }, { on := 15, ground := Go.Ground.phase }, { on := 16, ground := Go.Ground.phase }, { on := 17, ground := Go.Ground.phase }], guard := Option.none }) (by kernel_rfl) (by rfl) (by rfl) ?_
            intro K hK
            go_wp2_with fail
            refine hK.out _ _ (fun _ => (HS.out _ B17.out)) ?_
            clear hK K
            try simp only [Act.put, List.setIfInBounds_toArray, List.set_cons_zero, List.set_cons_succ]
            refine KeptTill.one (i := 19) (o := { dst := Option.some 54, op := Go.Op.fieldAddr 45 (Go.Operand.tmp 53) 1, type := 0, pos := "ref.go:54", after := #[{ on := 18, ground := Go.Ground.data }, { on := 0, ground := Go.Ground.phase }, { on := 1, ground := Go.Ground.phase }, { on := 2, ground := Go.Ground.phase }, { on := 3, ground := Go.Ground.phase }, { on := 4, ground := Go.Ground.phase }, { on := 5, ground := Go.Ground.phase }, { on := 6, ground := Go.Ground.phase }, { on := 7, ground := Go.Ground.phase }, { on := 8, ground := Go.Ground.phase }, { on := 9, ground := Go.Ground.phase }, { on := 10, ground := Go.Ground.phase }, { on := 11, ground := Go.Ground.phase }, { on := 12, ground := Go.Ground.phase }, { on := 13, ground := Go.Ground.phase }, { on := 14, ground := Go.Ground.phase }, { on := 15, ground := Go.Ground.phase }, { on := 16, ground := Go.Ground.phase }, { on := 17, ground := Go.Ground.phase }], guard := Option.none }) (by kernel_rfl) (by rfl) (by rfl) ?_
            intro K hK
            go_wp2_with fail
            refine hK.out _ _ (fun _ => (HS.out _ B17.out)) ?_
            clear hK K
            try simp only [Act.put, List.setIfInBounds_toArray, List.set_cons_zero, List.set_cons_succ]
            refine KeptTill.one (i := 20) (o := { dst := Option.none, op := Go.Op.store 41 (Go.Operand.tmp 54) (Go.Operand.tmp 52), type := 0, pos := "ref.go:54", after := #[{ on := 19, ground := Go.Ground.data }, { on := 17, ground := Go.Ground.data }, { on := 17, ground := Go.Ground.chain }, { on := 0, ground := Go.Ground.phase }, { on := 1, ground := Go.Ground.phase }, { on := 2, ground := Go.Ground.phase }, { on := 3, ground := Go.Ground.phase }, { on := 4, ground := Go.Ground.phase }, { on := 5, ground := Go.Ground.phase }, { on := 6, ground := Go.Ground.phase }, { on := 7, ground := Go.Ground.phase }, { on := 8, ground := Go.Ground.phase }, { on := 9, ground := Go.Ground.phase }, { on := 10, ground := Go.Ground.phase }, { on := 11, ground := Go.Ground.phase }, { on := 12, ground := Go.Ground.phase }, { on := 13, ground := Go.Ground.phase }, { on := 14, ground := Go.Ground.phase }, { on := 15, ground := Go.Ground.phase }, { on := 16, ground := Go.Ground.phase }, { on := 17, ground := Go.Ground.phase }], guard := Option.none }) (by kernel_rfl) (by rfl) (by rfl) ?_
            intro K hK
            go_wp2_with fail
            refine hK.out _ _ (fun h => absurd h (by decide)) ?_
            clear hK K
            try simp only [Act.put, List.setIfInBounds_toArray, List.set_cons_zero, List.set_cons_succ]
            refine KeptTill.done (by kernel_rfl) ?_ _
            go_wp2_with fail
            go_meet
            exact Lib.hid (hfin.out _ _ _ ho17 B17.out)
          · intro K hK
            go_wp2_with fail
            have B9 : Hid (Below w.heap.size w (w.drew.alloc (.cells #[.int .u64 n] 29))) := Lib.hid (B0.out.trans (((Below.refl _ _).alloc (Nat.le_refl _) _).mono B0.out.size))
            have R9 := Rd.fresh w.drew [.int .u64 n] 29
            refine hK.out _ _ (fun _ => (HS.out _ B9.out)) ?_
            clear hK K
            try simp only [Act.put, List.setIfInBounds_toArray, List.set_cons_zero, List.set_cons_succ]
            refine KeptTill.one (i := 7) (o := { dst := Option.some 42, op := Go.Op.call { callee := Go.Callee.builtin Go.Builtin.append, args := #[Go.Operand.const (Go.Value.slice Option.none 0 0), Go.Operand.tmp 41], argTypes := #[41, 41] }, type := 41, pos := "ref.go:54", after := #[{ on := 6, ground := Go.Ground.data }], guard := Option.none }) (by kernel_rfl) (by rfl) (by rfl) ?_
            intro K hK
            refine wp_app _ (.const (.slice none 0 0)) (.tmp 41) 41 rfl w.heap.size 29 iu _ 8 Try.underlying41 hiu hy0 hy1 hy2 rfl (.slice none 0 0) 0 [] (by rfl) (World.ownsRow_nil _ _ _ _) A k c (nv (r.N.take k)) (by rfl) hl7.out (R7.out _ B9.out) (nv_one _) (by unfold maxLen; omega) (by omega) B9.out.size ?_
            intro A7 c7 w7 ho7 hg7 _
            have B7 : Hid (Below w.heap.size w w7) := Lib.hid (B9.out.grown hg7 B9.out.size (fun j hj => by simp [Value.ownBlock] at hj))
            simp only [Nat.zero_add, List.nil_append] at ho7 ⊢
            have R9b := R9.grown hg7 (fun _ a ha e => by simp [Value.ownBlock] at e)
            refine hK.out _ _ (fun _ => (HS.out _ B7.out)) ?_
            clear hK K
            try simp only [Act.put, List.setIfInBounds_toArray, List.set_cons_zero, List.set_cons_succ]
            refine KeptTill.one (i := 10) (o := { dst := Option.some 45, op := Go.Op.call { callee := Go.Callee.builtin Go.Builtin.append, args := #[Go.Operand.tmp 42, Go.Operand.tmp 44], argTypes := #[41, 41] }, type := 41, pos := "ref.go:54", after := #[{ on := 7, ground := Go.Ground.data }, { on := 9, ground := Go.Ground.data }, { on := 7, ground := Go.Ground.chain }], guard := Option.none }) (by kernel_rfl) (by rfl) (by rfl) ?_
            intro K hK
            refine wp_app _ (.tmp 42) (.tmp 44) 41 rfl w.heap.size 29 iu _ 8 Try.underlying41 hiu hy0 hy1 hy2 rfl _ k (nv (r.N.take k)) (by rfl) ho7 _ 1 1 [.int .u64 n] (by rfl) rfl (by first | exact R9b | (have q := R9b; simp at q; exact q)) (by intro u hu; rw [List.mem_singleton.1 hu]; rfl) (by unfold maxLen; omega) (by omega) B7.out.size ?_
            intro A10 c10 w10 ho10 hg10 _
            have B10 : Hid (Below w.heap.size w w10) := Lib.hid (B7.out.grown hg10 B7.out.size (fun j hj => (ho7.lt j hj).1))
            refine hK.out _ _ (fun _ => (HS.out _ B10.out)) ?_
            clear hK K
            try simp only [Act.put, List.setIfInBounds_toArray, List.set_cons_zero, List.set_cons_succ]
            refine KeptTill.one (i := 17) (o := { dst := Option.some 52, op := Go.Op.call { callee := Go.Callee.builtin Go.Builtin.append, args := #[Go.Operand.tmp 45, Go.Operand.tmp 51], argTypes := #[41, 41] }, type := 41, pos := "ref.go:54", after := #[{ on := 10, ground := Go.Ground.data }, { on := 16, ground := Go.Ground.data }, { on := 10, ground := Go.Ground.chain }], guard := Option.none }) (by kernel_rfl) (by rfl) (by rfl) ?_
            intro K hK
            refine wp_app _ (.tmp 45) (.tmp 51) 41 rfl w.heap.size 29 iu _ 8 Try.underlying41 hiu hy0 hy1 hy2 rfl _ (k + 1) (nv (r.N.take k) ++ [.int .u64 n]) (by rfl) ho10 X q (c - k) (nv (r.N.drop k)) (by rfl) hl17.out (R17.out _ B10.out) (nv_one _) (by unfold maxLen; omega) (by omega) B10.out.size ?_
            intro A17 c17 w17 ho17 hg17 _
            have B17 : Hid (Below w.heap.size w w17) := Lib.hid (B10.out.grown hg17 B10.out.size (fun j hj => (ho10.lt j hj).1))
            obtain ⟨d1, d2⟩ := HS2.out _ B17.out
            refine hK.out _ _ (fun _ => (HS.out _ B17.out)) ?_
            clear hK K
            try simp only [Act.put, List.setIfInBounds_toArray, List.set_cons_zero, List.set_cons_succ]
            refine KeptTill.one (i := 18) (o := { dst := Option.some 53, op := Go.Op.nilCheck (Go.Operand.tmp 35), type := 0, pos := "ref.go:54", after := #[{ on := 0, ground := Go.Ground.data }, { on := 0, ground := Go.Ground.phase }, { on := 1, ground := Go.Ground.phase }, { on := 2, ground := Go.Ground.phase }, { on := 3, ground := Go.Ground.phase }, { on := 4, ground := Go.Ground.phase }, { on := 5, ground := Go.Ground.phase }, { on := 6, ground := Go.Ground.phase }, { on := 7, ground := Go.Ground.phase }, { on := 8, ground := Go.Ground.phase }, { on := 9, ground := Go.Ground.phase }, { on := 10, ground := Go.Ground.phase }, { on := 11, ground := Go.Ground.phase }, { on := 12, ground := Go.Ground.phase }, { on := 13, ground := Go.Ground.phase }, { on := 14, ground := Go.Ground.phase }, { on := 15, ground := Go.Ground.phase }, { on := 16, ground := Go.Ground.phase }, { on := 17, ground := Go.Ground.phase }], guard := Option.none }) (by kernel_rfl) (by rfl) (by rfl) ?_
            intro K hK
            go_wp2_with fail
            refine hK.out _ _ (fun _ => (HS.out _ B17.out)) ?_
            clear hK K
            try simp only [Act.put, List.setIfInBounds_toArray, List.set_cons_zero, List.set_cons_succ]
            refine KeptTill.one (i := 19) (o := { dst := Option.some 54, op := Go.Op.fieldAddr 45 (Go.Operand.tmp 53) 1, type := 0, pos := "ref.go:54", after := #[{ on := 18, ground := Go.Ground.data }, { on := 0, ground := Go.Ground.phase }, { on := 1, ground := Go.Ground.phase }, { on := 2, ground := Go.Ground.phase }, { on := 3, ground := Go.Ground.phase }, { on := 4, ground := Go.Ground.phase }, { on := 5, ground := Go.Ground.phase }, { on := 6, ground := Go.Ground.phase }, { on := 7, ground := Go.Ground.phase }, { on := 8, ground := Go.Ground.phase }, { on := 9, ground := Go.Ground.phase }, { on := 10, ground := Go.Ground.phase }, { on := 11, ground := Go.Ground.phase }, { on := 12, ground := Go.Ground.phase }, { on := 13, ground := Go.Ground.phase }, { on := 14, ground := Go.Ground.phase }, { on := 15, ground := Go.Ground.phase }, { on := 16, ground := Go.Ground.phase }, { on := 17, ground := Go.Ground.phase }], guard := Option.none }) (by kernel_rfl) (by rfl) (by rfl) ?_
            intro K hK
            go_wp2_with fail
            refine hK.out _ _ (fun _ => (HS.out _ B17.out)) ?_
            clear hK K
            try simp only [Act.put, List.setIfInBounds_toArray, List.set_cons_zero, List.set_cons_succ]
            refine KeptTill.one (i := 20) (o := { dst := Option.none, op := Go.Op.store 41 (Go.Operand.tmp 54) (Go.Operand.tmp 52), type := 0, pos := "ref.go:54", after := #[{ on := 19, ground := Go.Ground.data }, { on := 17, ground := Go.Ground.data }, { on := 17, ground := Go.Ground.chain }, { on := 0, ground := Go.Ground.phase }, { on := 1, ground := Go.Ground.phase }, { on := 2, ground := Go.Ground.phase }, { on := 3, ground := Go.Ground.phase }, { on := 4, ground := Go.Ground.phase }, { on := 5, ground := Go.Ground.phase }, { on := 6, ground := Go.Ground.phase }, { on := 7, ground := Go.Ground.phase }, { on := 8, ground := Go.Ground.phase }, { on := 9, ground := Go.Ground.phase }, { on := 10, ground := Go.Ground.phase }, { on := 11, ground := Go.Ground.phase }, { on := 12, ground := Go.Ground.phase }, { on := 13, ground := Go.Ground.phase }, { on := 14, ground := Go.Ground.phase }, { on := 15, ground := Go.Ground.phase }, { on := 16, ground := Go.Ground.phase }, { on := 17, ground := Go.Ground.phase }], guard := Option.none }) (by kernel_rfl) (by rfl) (by rfl) ?_
            intro K hK
            go_wp2_with fail
            refine hK.out _ _ (fun h => absurd h (by decide)) ?_
            clear hK K
            try simp only [Act.put, List.setIfInBounds_toArray, List.set_cons_zero, List.set_cons_succ]
            refine KeptTill.done (by kernel_rfl) ?_ _
            go_wp2_with fail
            go_meet
            exact Lib.hid (hfin.out _ _ _ ho17 B17.out)
        case rest =>
          obtain ⟨B, d, I, F, NX⟩ := hcut.out
          clear hcut
          have CL := Lib.hid (rlist_any I _ _ rfl rfl)
          have hL100 : (rlst (nins r.N n)).length ≤ 100 := by have := rlst_len (nins r.N n); rw [nins_len] at this; have := hm.out; omega
          obtain ⟨h1, h2⟩ := HI.out
          obtain ⟨j1, j2⟩ := rlst_ok h1
          have hadd : Hid (r.add n = match (rlst (nins r.N n)).getLast? with
            | some x => if r.most < (rlst (nins r.N n)).length then (r.add1 n).below (x.hi + 1) else r.add1 n
            | none => r.add1 n) := Lib.hid rfl
          have htop : Hid (∀ x ∈ rlst (nins r.N n), x.hi ≤ 4611686018427387903) := Lib.hid (fun x hx => by
            have h3 := (rmem_iff _ _).2 ⟨x, hx, j1.le x hx, Nat.le_refl _⟩
            rw [j2] at h3
            exact I.tops _ ((rmemN_iff _ _).1 h3))
          have hnr : (r.add1 n).N = nins r.N n := rfl
          rw [hnr] at CL
          obtain ⟨l, hl⟩ : ∃ l, rlst (nins r.N n) = l := ⟨_, rfl⟩
          rw [hl] at CL hL100 hadd htop
          obtain ⟨L, hL⟩ : ∃ L, l.length = L := ⟨_, rfl⟩
          rw [hL] at CL hL100 hadd
          have hmost := I.most
          have hmo : (r.add1 n).most = r.most := rfl
          obtain ⟨mo, hmoo⟩ : ∃ mo, r.most = mo := ⟨_, rfl⟩
          rw [hmo, hmoo] at hmost
          rw [hmoo] at hadd
          replace hL := Lib.hid hL
          replace hl := Lib.hid hl
          replace I := Lib.hid I
          replace F := Lib.hid F
          replace NX := Lib.hid NX
          clear h1 h2 j1 j2
          go_wp2_with fail
          refine CL.out.mono ?_
          rintro e w3 ⟨Ao, co, rfl, ol, bl⟩
          have I3 := I.out.below bl
          have d0 : w3.cell? ⟨p, 0, none⟩ = some (.int .i64 mo) := by rw [← hmoo]; exact wrote_cell I3.cell 0 _ rfl
          have F3 := Lib.hid (F.out.trans (Fr.of_below bl _))
          replace hmoo := Lib.hid hmoo
          replace I3 := Lib.hid I3
          clear CL bl
          by_cases hgtL : mo < L
          · obtain ⟨kk, rfl⟩ : ∃ kk, L = kk + 1 := ⟨L - 1, by omega⟩
            obtain ⟨x, hx⟩ : ∃ x, l[kk]? = some x := ⟨_, List.getElem?_eq_getElem (by rw [hL.out]; omega)⟩
            have hgl : l.getLast? = some x := by rw [List.getLast?_eq_getElem?, hL.out]; exact hx
            have hxt := htop.out x (List.mem_of_getElem? hx)
            obtain ⟨g, go, hA, _, q1⟩ := load_rg (Rd.of_ownS ol) (k := kk) (by rw [hL.out]; omega)
            subst hA
            have hxe : (l[kk]'(by rw [hL.out]; omega)) = x := by
              have := hx
              rw [List.getElem?_eq_getElem (by rw [hL.out]; omega)] at this
              injection this
            simp only [hxe] at q1
            have hcp : kk + 1 ≤ co ∧ co ≤ 9223372036854775807 := by
              rcases ownS_cases ol with ⟨h1, _⟩ | ⟨_, _, _, _, h1, h2⟩
              · cases h1
              · exact ⟨h1, by simpa [maxLen] using h2⟩
            obtain ⟨hcp1, hcp2⟩ := hcp
            have e1 : ((kk + 1 : Nat) : Int) - 1 = (kk : Int) := by omega
            have e2 : (kk : Int) < ((kk + 1 : Nat) : Int) := by omega
            have e3 : (0 : Int) ≤ (kk : Int) := by omega
            have e4 : (mo : Int) < ((kk + 1 : Nat) : Int) := by omega
            clear htop
            have hw1 : IntKind.u64.wrap ((x.hi : Int) + 1) = ((x.hi + 1 : Nat) : Int) := by rw [IntKind.wrap_u64]; omega
            have hw2 : (x.hi : Int) + 1 ≤ 4611686018427387904 := by omega
            have CB := rbelow_any I3.out (x.hi + 1) (by omega)
            have hfin : Hid (r.add n = (r.add1 n).below (x.hi + 1)) := Lib.hid (by rw [hadd.out, hgl]; simp only; rw [if_pos (by omega)])
            have hxI : ((x.hi + 1 : Nat) : Int) = (x.hi : Int) + 1 := by omega
            rw [hxI] at CB hw1
            have hx0 : (0 : Int) ≤ (x.hi : Int) := by omega
            obtain ⟨H', hH⟩ : ∃ H' : Int, (x.hi : Int) = H' := ⟨_, rfl⟩
            rw [hH] at CB hw1 hw2 hx0 q1
            replace hH := Lib.hid hH
            replace CB := Lib.hid CB
            replace hx := Lib.hid hx
            replace hgl := Lib.hid hgl
            replace ol := Lib.hid ol
            clear hxe hxt hxI
            go_wp2_with fail
            refine CB.out.mono ?_
            rintro e w4 ⟨rfl, hp⟩
            have hp := Lib.hid (RnPost.trans I3.out F3.out NX.out hp)
            clear CB
            go_wp2_with fail
            go_ret
            rw [hfin.out]
            exact ⟨rfl, hp.out⟩
          · have e4 : (L : Int) ≤ (mo : Int) := by omega
            have hfin : Hid (r.add n = r.add1 n) := Lib.hid (by
              rw [hadd.out]
              split
              · rw [if_neg hgtL]
              · rfl)
            go_wp2_with fail
            go_ret
            rw [hfin.out]
            exact ⟨rfl, B, d, I3.out, F3.out, NX.out⟩
end
end Go.Proofs.Ytdhdnpagdflgpaa
