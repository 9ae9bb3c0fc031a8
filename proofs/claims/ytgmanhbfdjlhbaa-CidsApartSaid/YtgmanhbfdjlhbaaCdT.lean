/- CidsTurns: the walk; it is true at every input. -/
import Derived.Test.YtgmanhbfdjlhbaaCdO
import Derived.Test.YtgmanhbfdjlhbaaCut
namespace Go.Proofs.Ytgmanhbfdjlhbaa
open Go.RowKit

def gid (j : Nat) : List UInt8 := growl 8 j
def gtok (j : Nat) : List UInt8 := if j = 0 then [] else growl 16 j
theorem gid_len (j : Nat) : (gid j).length = 8 := by simp [gid]
theorem gtok_len {j : Nat} (h : 1 ≤ j) : (gtok j).length = 16 := by unfold gtok; rw [if_neg (by omega)]; simp
theorem gtok_eq {j : Nat} (h : 1 ≤ j) : gtok j = growl 16 j := by unfold gtok; rw [if_neg (by omega)]
theorem gid_ne : ∀ i, i < 16 → ∀ j, j < 16 → i ≠ j → gid i ≠ gid j := by decide +kernel
/-- The names from i + 1 to m are there. -/
def adl (m i : Nat) : Cd := ast (gid 0) (fun k => gid (k + 1)) (fun k => gtok (k + 1)) (fun k => decide (i ≤ k ∧ k < m))
theorem adl_count : ∀ m, m ≤ 8 → ∀ i, i ≤ m → ((List.range 16).filter fun k => decide (i ≤ k ∧ k < m)).length = m - i := by decide +kernel
theorem adl_start (m : Nat) : cnew (gid 0) = adl m m := by
  unfold adl ast cnew
  have e : (List.range 16).filter (fun k => decide (m ≤ k ∧ k < m)) = [] := by
    rw [List.filter_eq_nil_iff]; intro k _ hk; have := of_decide_eq_true hk; omega
  rw [e]; rfl
theorem adl_len {m i : Nat} (hm : m ≤ 8) (hi : i ≤ m) : (adl m i).l.length ≤ 9 := by
  unfold adl ast
  simp only [List.length_cons, List.length_map]
  rw [adl_count m hm i hi]; omega
theorem adl_step {m j : Nat} (hm : m ≤ 8) (hj : j + 1 ≤ m) : cadd (adl m (j + 1)) (j + 1) (gid (j + 1)) (gtok (j + 1)) = adl m j ∧ caddE (adl m (j + 1)).l (j + 1) (gid (j + 1)) (gtok (j + 1)) = 0 := by
  have h := ast_add (first := gid 0) (ids := fun k => gid (k + 1)) (toks := fun k => gtok (k + 1)) (hv := fun k => decide (j + 1 ≤ k ∧ k < m)) (k := j) (by omega) (decide_eq_false (by omega)) (by rw [adl_count m hm (j + 1) hj]; omega) (gid_len _) (gtok_len (by omega)) (gid_ne 0 (by omega) (j + 1) (by omega) (by omega))
    (fun i hi hv => gid_ne _ (by have := of_decide_eq_true hv; omega) _ (by omega) (by have := of_decide_eq_true hv; omega))
  refine ⟨?_, h.2⟩
  unfold adl
  rw [h.1]
  congr 1
  funext k
  rw [Bool.eq_iff_iff, Bool.or_eq_true, decide_eq_true_eq, decide_eq_true_eq, beq_iff_eq]
  omega
/-- Path j's name is name j. -/
def ptf (back : Bool) (j : Nat) : Int := if j = 0 then 0 else if back then 1000 - (j : Int) else 2 * (j : Int)
theorem ptf_nn (back : Bool) {j : Nat} (h : j ≤ 20) : 0 ≤ ptf back j := by
  unfold ptf; split
  · omega
  · split <;> omega
theorem ptf_ne (back : Bool) {i j : Nat} (hi : i ≤ 20) (hj : j ≤ 20) (h : i ≠ j) : ptf back i ≠ ptf back j := by
  unfold ptf
  cases back <;> (repeat' split) <;> simp_all <;> omega
/-- The pool ahead of move i. -/
def tst (back : Bool) (m i : Nat) : Cd := pst gid gtok m (min i (m + 1)) (ptf back) (fun j => decide (j < min i (m + 1) - 1)) (ptf back (min i (m + 1) - 1))
theorem tst_start (back : Bool) {m : Nat} (hm : m ≤ 8) : adl m 0 = tst back m 1 := by
  unfold adl tst
  have e : (fun k => decide (0 ≤ k ∧ k < m)) = fun k => decide (k < m) := by funext k; simp
  rw [e, ast_pst (by omega) rfl, show min 1 (m + 1) = 1 by omega]
  unfold pst
  congr 1
  refine List.map_congr_left fun j _ => ?_
  unfold pnm
  by_cases h : j < 1
  · have : j = 0 := by omega
    subst this; simp [ptf]
  · simp [h]
theorem tst_yes (back : Bool) {m i : Nat} (hm : m ≤ 8) (h1 : 1 ≤ i) (hi : i ≤ m) : ∃ s, cforBy cpick (tst back m i) (ptf back i) = (s, some (gid i)) ∧ cret s = (tst back m (i + 1), [i - 1]) ∧ ctok (tst back m (i + 1)).l (growl 16 i) = true := by
  have h := turn_yes (ids := gid) (toks := gtok) (m := m) (i := i) (pth := ptf back) h1 hi (fun j hj => ptf_nn back (by omega)) (fun j hj => ptf_ne back (by omega) (by omega) (by omega))
  unfold tst
  rw [show min i (m + 1) = i by omega, show min (i + 1) (m + 1) = i + 1 by omega, show i + 1 - 1 = i by omega]
  refine ⟨_, h.1, h.2, ?_⟩
  rw [← gtok_eq h1]
  exact pst_tok i (by omega) hi (ptf_nn back (by omega)) (by have := gtok_len h1; intro e; rw [e] at this; simp at this)
theorem tst_no (back : Bool) {m i : Nat} (hm : m ≤ 8) (hi : m < i) (hi2 : i ≤ 20) : cforBy cpick (tst back m i) (ptf back i) = (tst back m i, none) ∧ cret (tst back m i) = (tst back m i, []) ∧ tst back m (i + 1) = tst back m i := by
  have h := turn_no (ids := gid) (toks := gtok) (m := m) (pth := ptf back) (ptf back i) (ptf_nn back hi2) (fun j hj => ptf_nn back (by omega)) (fun j hj => ptf_ne back (by omega) hi2 (by omega)) (fun j hj => ptf_ne back (by omega) (by omega) (by omega))
  unfold tst
  rw [show min i (m + 1) = m + 1 by omega, show min (i + 1) (m + 1) = m + 1 by omega, show m + 1 - 1 = m by omega]
  exact ⟨h.1, h.2, rfl⟩
theorem tst_ret (back : Bool) {m i : Nat} (hm : m ≤ 8) (h1 : 1 ≤ i) : cret (tst back m i) = (tst back m i, []) := by
  unfold tst
  refine ret_empty fun j => ?_
  rw [← Bool.not_eq_true, old_iff, pnm_path]
  have ht : (pnm gid gtok (min i (m + 1)) (ptf back) (fun j => decide (j < min i (m + 1) - 1)) j).told = decide (j < min i (m + 1) - 1) := rfl
  rw [ht, decide_eq_false_iff_not]
  by_cases hj : j < min i (m + 1)
  · rw [if_pos hj]
    intro h
    have e : j = min i (m + 1) - 1 := by omega
    exact h.1.2 (by rw [e])
  · rw [if_neg hj]
    exact fun h => h.1.1 rfl

set_option maxRecDepth 100000 in
set_option maxHeartbeats 8000000 in
theorem turns_in (m0 v0 : Int) (back : Bool) (m mv mn : Nat) (w : World) (hm : m < 9) (hv : mv < 10) (hmn : mn = min m mv)
    (D1 : Hid (∀ w : World, Calls Try.prog 25 #[.int .i64 m0, .int .i64 9] w fun e w' => e = .returned (.int .i64 m) ∧ w = w'))
    (D2 : Hid (∀ w : World, Calls Try.prog 25 #[.int .i64 v0, .int .i64 10] w fun e w' => e = .returned (.int .i64 mv) ∧ w = w')) :
    Calls Try.prog 5 #[.int .i64 m0, .int .i64 v0, .bool back] w fun e w' => e = .returned (.bool true) ∧ Below w.heap.size w w' := by
  have HMn := fun ts t w => run_min2 (P := Try.prog) m mv mn (by omega) ts t w
  have CG8 := Lib.hid (fun (j : Nat) (hj : j ≤ 20) w => grow_any 8 j w (by omega) (by omega))
  have CG16 := Lib.hid (fun (j : Nat) (hj : j ≤ 20) w => grow_any 16 j w (by omega) (by omega))
  have hP : Hid (∀ k, k < w.heap.size → (fun k => k < w.heap.size) k) := Lib.hid (fun _ h => h)
  replace hmn := Lib.hid hmn
  go_enter Try.func5, Try.ntmps5
  go_wp2_with fail
  refine (D1.out _).mono ?_
  rintro e w' ⟨rfl, rfl⟩
  go_wp2_with fail
  refine (D2.out _).mono ?_
  rintro e w' ⟨rfl, rfl⟩
  clear D1 D2
  go_wp2_with fail
  refine (CG8.out 0 (by omega) _).mono ?_
  rintro e w1 ⟨AF, cF, rfl, oF, b1⟩
  have RF := Lib.hid (Rd.of_own oF)
  replace b1 := Lib.hid b1
  clear oF
  go_wp2_with fail
  refine (cnew_at (P := fun k => k < w.heap.size) (w := w1) (fun k hk => Nat.lt_of_lt_of_le hk b1.out.size) (growl 8 0) AF cF (by simp) RF.out).mono ?_
  rintro e w2 ⟨p, rfl, H, b2, _⟩
  have HS : Hid (At OC (fun k => k < w.heap.size) w2 p (adl m m) ∧ Below w.heap.size w w2) := Lib.hid ⟨by rw [← adl_start]; exact H, b1.out.trans (b2.mono b1.out.size)⟩
  clear H b2 b1 RF
  go_wp2_with fail
  go_loopw [8] (fun i wr => ∃ k : Nat, k ≤ m ∧ i = .int .i64 k ∧ Hid (At OC (fun k => k < w.heap.size) wr p (adl m k) ∧ Below w.heap.size w wr)) (fun i _ => (intOf i).toNat)
  case atStart => exact ⟨m, by omega, rfl, HS⟩
  case round =>
    clear HS
    obtain ⟨k, hk, rfl, HS⟩ := hrel
    by_cases hk0 : 1 ≤ k
    · rename_i aa; clear aa
      obtain ⟨j, rfl⟩ : ∃ j, k = j + 1 := ⟨k - 1, by omega⟩
      have ST := adl_step (m := m) (by omega) hk
      have HL := adl_len (m := m) (i := j + 1) (by omega) hk
      have d1 : decide ((1 : Int) ≤ ((j + 1 : Nat) : Int)) = true := decide_eq_true (by omega)
      replace ST := Lib.hid ST
      replace HL := Lib.hid HL
      clear hk0
      go_wp2_with fail
      refine (CG8.out (j + 1) (by omega) _).mono ?_
      rintro e w3 ⟨A3, c3, rfl, o3, b3⟩
      have R3 := Lib.hid (Rd.of_own o3)
      replace HS := Lib.hid (And.intro (HS.out.1.below okC b3) (HS.out.2.trans (b3.mono HS.out.2.size)))
      clear o3 b3
      go_wp2_with fail
      refine (CG16.out (j + 1) (by omega) _).mono ?_
      rintro e w4 ⟨A4, c4, rfl, o4, b4⟩
      have R4 := Lib.hid (Rd.of_own o4)
      replace R3 := Lib.hid (R3.out.below b4)
      replace HS := Lib.hid (And.intro (HS.out.1.below okC b4) (HS.out.2.trans (b4.mono HS.out.2.size)))
      clear o4 b4
      go_wp2_with fail
      refine (cadd_at 0 (adl m j) HS.out.1 (j + 1) (gid (j + 1)) (gtok (j + 1)) A3 A4 8 16 c3 c4 (gid_len _) (gtok_len (by omega)) R3.out (by rw [gtok_eq (by omega)]; exact R4.out) (by have := HL.out; omega) ST.out.2 ST.out.1).mono ?_
      rintro e w5 ⟨rfl, H5, F5⟩
      replace HS := Lib.hid (And.intro H5 (fp_below HS.out.2 HS.out.2.size (fun _ h => h) F5))
      clear H5 F5 R3 R4
      go_wp2_with fail
      refine (CG16.out (j + 1) (by omega) _).mono ?_
      rintro e w6 ⟨A6, c6, rfl, o6, b6⟩
      have R6 := Lib.hid (Rd.of_own o6)
      replace HS := Lib.hid (And.intro (HS.out.1.below okC b6) (HS.out.2.trans (b6.mono HS.out.2.size)))
      clear o6 b6
      go_wp2_with fail
      refine (ctok_at false HS.out.1 (growl 16 (j + 1)) A6 16 c6 (by simp) R6.out (ast_tok _)).mono ?_
      rintro e w7 ⟨rfl, b7⟩
      replace HS := Lib.hid (And.intro (HS.out.1.below okC b7) (HS.out.2.trans (b7.mono HS.out.2.size)))
      clear b7 R6
      go_wp2_with fail
      go_roundw
      case rel => exact ⟨j, by omega, by go_num, HS⟩
      case measure => simp [intOf] <;> omega
    · obtain rfl : k = 0 := by omega
      clear hk0
      have HS : Hid (At OC (fun k => k < w.heap.size) wr p (tst back m 1) ∧ Below w.heap.size w wr) := Lib.hid (by rw [← tst_start back (by omega)]; exact HS.out)
      go_wp2_with fail
      go_loopw [9, 10, 11, 12, 13, 14] (fun tl i _ _ _ _ wq => ∃ k : Nat, 1 ≤ k ∧ k ≤ mv + 1 ∧ tl = .int .i64 (min (k - 1) m : Nat) ∧ i = .int .i64 k ∧ Hid (At OC (fun k => k < w.heap.size) wq p (tst back m k) ∧ Below w.heap.size w wq)) (fun _ i _ _ _ _ _ => mv + 2 - (intOf i).toNat)
      case atStart => exact ⟨1, by omega, by omega, by simp, rfl, HS⟩
      case round =>
        clear HS
        obtain ⟨k, hk1, hk2, rfl, rfl, HS⟩ := hrel
        obtain ⟨j, rfl⟩ : ∃ j, k = j + 1 := ⟨k - 1, by omega⟩
        obtain ⟨tl, htl⟩ : ∃ tl, min (j + 1 - 1) m = tl := ⟨_, rfl⟩
        rw [htl]
        by_cases hkm : j + 1 ≤ mv
        · rename_i aa; clear aa
          have d1 : decide (((j + 1 : Nat) : Int) ≤ (mv : Int)) = true := decide_eq_true (by omega)
          have d1n : decide (j + 1 ≤ mv) = true := decide_eq_true hkm
          have d1i : decide ((j : Int) + 1 ≤ (mv : Int)) = true := decide_eq_true (by omega)
          obtain ⟨K, hK⟩ : ∃ K, ptf back (j + 1) = K := ⟨_, rfl⟩
          have htb : tl ≤ 20 := by omega
          replace htl := Lib.hid htl
          have hkv : j + 1 ≤ 9 := by omega
          have hjv : Hid (j + 1 ≤ mv) := Lib.hid hkm
          clear hkm hk1 hk2
          go_upto_if 50 with fail
          go_cut [11] from 43 to 105 (fun v wx => v = .int .i64 K ∧ wr = wx)
          case first =>
            cases back
            · go_wp2_with fail
              go_meet
              exact ⟨by rw [← hK]; unfold ptf; simp, rfl⟩
            · go_wp2_with fail
              go_meet
              exact ⟨by rw [← hK]; unfold ptf; simp, rfl⟩
          case rest =>
            obtain ⟨rfl, rfl⟩ := hcut
            clear d1 d1n d1i
            by_cases hkm : j + 1 ≤ m
            · obtain ⟨s, t1, t2, t3⟩ := tst_yes back (m := m) (i := j + 1) (by omega) (by omega) hkm
              rw [hK] at t1
              have d2 : decide (((j + 1 : Nat) : Int) ≤ (m : Int)) = true := decide_eq_true (by omega)
              have d2n : decide (j + 1 ≤ m) = true := decide_eq_true hkm
              have d2i : decide ((j : Int) + 1 ≤ (m : Int)) = true := decide_eq_true (by omega)
              replace t1 := Lib.hid t1
              replace t2 := Lib.hid t2
              replace t3 := Lib.hid t3
              have hjm : Hid (j + 1 ≤ m) := Lib.hid hkm
              clear hK hkm
              go_wp2_with fail
              refine (cfory_at s (gid (j + 1)) HS.out.1 K t1.out).mono ?_
              rintro e w3 ⟨A3, c3, rfl, o3, _, H3, F3⟩
              have R3 := Lib.hid (Rd.of_own o3)
              replace HS := Lib.hid (And.intro (H3.narrow (Q := fun k => k < w.heap.size) (fun _ h => .inl h)) (fp_below HS.out.2 HS.out.2.size (fun _ h => h) F3))
              clear o3 H3 F3
              go_wp2_with fail
              refine (CG8.out (j + 1) (by omega) _).mono ?_
              rintro e w4 ⟨A4, c4, rfl, o4, b4⟩
              have R4 := Lib.hid (Rd.of_own o4)
              replace R3 := Lib.hid (R3.out.below b4)
              replace HS := Lib.hid (And.intro (HS.out.1.below okC b4) (HS.out.2.trans (b4.mono HS.out.2.size)))
              clear o4 b4
              go_wp2_with fail
              refine (same_to true (gid (j + 1)) (growl 8 (j + 1)) 8 8 A3 A4 c3 c4 w4 (gid_len _) (by simp) R3.out R4.out (by omega) (by omega) (decide_eq_true rfl)).mono ?_
              rintro e w5 ⟨rfl, s5⟩
              replace HS := Lib.hid (And.intro (HS.out.1.still okC s5) (HS.out.2.trans (s5.below.mono HS.out.2.size)))
              clear s5 R3 R4
              go_wp2_with fail
              refine (cret_at (tst back m (j + 1 + 1)) [j + 1 - 1] 1 HS.out.1 t2.out rfl).mono ?_
              rintro e w6 ⟨A6, c6, rfl, o6, H6, F6⟩
              have R6 := Lib.hid (Rd.of_own o6)
              replace HS := Lib.hid (And.intro (H6.narrow (Q := fun k => k < w.heap.size) (fun _ h => .inl h)) (fp_below HS.out.2 HS.out.2.size (fun _ h => h) F6))
              clear o6 H6 F6
              go_wp2_with fail
              refine (samen_to true [j + 1 - 1] [j] 1 1 A6 _ c6 1 _ rfl rfl (R6.out.alloc _) (Rd.fresh_mark _ (nv [j]) _ _) (by omega) (by omega) (by simp)).mono ?_
              rintro e w7 ⟨rfl, s7⟩
              have b7 : Below w6.heap.size w6 w7 := ((Below.refl _ w6).alloc (Nat.le_refl _) _).trans (s7.below.mono (by simp))
              replace HS := Lib.hid (And.intro (HS.out.1.below okC b7) (HS.out.2.trans (b7.mono HS.out.2.size)))
              clear s7 b7 R6
              go_wp2_with fail
              refine (CG16.out (j + 1) (by omega) _).mono ?_
              rintro e w8 ⟨A8, c8, rfl, o8, b8⟩
              have R8 := Lib.hid (Rd.of_own o8)
              replace HS := Lib.hid (And.intro (HS.out.1.below okC b8) (HS.out.2.trans (b8.mono HS.out.2.size)))
              clear o8 b8
              go_wp2_with fail
              refine (ctok_at true HS.out.1 (growl 16 (j + 1)) A8 16 c8 (by simp) R8.out t3.out).mono ?_
              rintro e w9 ⟨rfl, b9⟩
              replace HS := Lib.hid (And.intro (HS.out.1.below okC b9) (HS.out.2.trans (b9.mono HS.out.2.size)))
              clear b9 R8
              go_wp2_with fail
              go_roundw
              case rel => (repeat apply Exists.intro); exact ⟨⟨j + 1 + 1, by omega, by have := hjv.out; omega, by have := htl.out; have := hjm.out; rw [show min (j + 1 + 1 - 1) m = tl + 1 by omega]; go_num, by go_num, HS⟩, rfl⟩
              case measure => have := hjv.out; simp [intOf] <;> omega
            · obtain ⟨t1, t2, t3⟩ := tst_no back (m := m) (i := j + 1) (by omega) (by omega) (by omega)
              rw [hK] at t1
              have d2 : decide (((j + 1 : Nat) : Int) ≤ (m : Int)) = false := decide_eq_false (by omega)
              have d2n : decide (j + 1 ≤ m) = false := decide_eq_false hkm
              have d2i : decide ((j : Int) + 1 ≤ (m : Int)) = false := decide_eq_false (by omega)
              replace t1 := Lib.hid t1
              replace t2 := Lib.hid t2
              replace t3 := Lib.hid t3
              have hjm : Hid (¬ j + 1 ≤ m) := Lib.hid hkm
              clear hK hkm
              go_wp2_with fail
              refine (cforn_at (tst back m (j + 1)) HS.out.1 K t1.out).mono ?_
              rintro e w3 ⟨rfl, _, b3⟩
              replace HS := Lib.hid (And.intro (HS.out.1.below okC b3) (HS.out.2.trans (b3.mono HS.out.2.size)))
              clear b3
              go_wp2_with fail
              refine (cret_at (tst back m (j + 1)) [] 0 HS.out.1 t2.out rfl).mono ?_
              rintro e w6 ⟨A6, c6, rfl, o6, H6, F6⟩
              replace HS : Hid (At OC (fun k => k < w.heap.size) w6 p (tst back m (j + 1 + 1)) ∧ Below w.heap.size w w6) := Lib.hid (by
                rw [t3.out]
                exact And.intro (H6.narrow (Q := fun k => k < w.heap.size) (fun _ h => .inl h)) (fp_below HS.out.2 HS.out.2.size (fun _ h => h) F6))
              clear o6 H6 F6
              go_wp2_with fail
              go_roundw
              case rel => (repeat apply Exists.intro); exact ⟨⟨j + 1 + 1, by omega, by have := hjv.out; omega, by have := htl.out; have := hjm.out; rw [show min (j + 1 + 1 - 1) m = tl by omega], by go_num, HS⟩, rfl⟩
              case measure => have := hjv.out; simp [intOf] <;> omega
        · have hmm : tl = mn := by have := hmn.out; omega
          subst hmm
          have d1 : decide (((j + 1 : Nat) : Int) ≤ (mv : Int)) = false := decide_eq_false (by omega)
          have d1n : decide (j + 1 ≤ mv) = false := decide_eq_false hkm
          have d1i : decide ((j : Int) + 1 ≤ (mv : Int)) = false := decide_eq_false (by omega)
          have d1k : decide ((j : Int) < (mv : Int)) = false := decide_eq_false (by omega)
          have d1l : decide (j < mv) = false := decide_eq_false (by omega)
          have d3 : ((tl : Int) == (tl : Int)) = true := by simp
          have htb : tl ≤ 20 := by omega
          have TR := Lib.hid (tst_ret back (m := m) (i := j + 1) (by omega) (by omega))
          replace htl := Lib.hid htl
          clear hkm
          go_wp2_with fail
          refine (cret_at (tst back m (j + 1)) [] 0 HS.out.1 TR.out rfl).mono ?_
          rintro e w6 ⟨A6, c6, rfl, o6, H6, F6⟩
          have hb := Lib.hid (fp_below HS.out.2 HS.out.2.size (fun _ h => h) F6)
          clear o6 H6 F6 HS
          go_wp2_with fail
          refine (awake_any w6).mono ?_
          rintro e w7 ⟨rfl, b7⟩
          replace b7 := Lib.hid b7
          go_wp2_with fail
          go_ret
          exact ⟨rfl, hb.out.trans (b7.out.mono hb.out.size)⟩
theorem turns_any (m0 v0 : Int) (back : Bool) (w : World) : Calls Try.prog 5 #[.int .i64 m0, .int .i64 v0, .bool back] w fun e w' => e = .returned (.bool true) ∧ Below w.heap.size w w' := by
  obtain ⟨m, hm, D1⟩ := low_ex m0 9 (by omega) (by omega)
  obtain ⟨mv, hv, D2⟩ := low_ex v0 10 (by omega) (by omega)
  exact turns_in m0 v0 back m mv _ w hm hv rfl (Lib.hid D1) (Lib.hid D2)
end Go.Proofs.Ytgmanhbfdjlhbaa
