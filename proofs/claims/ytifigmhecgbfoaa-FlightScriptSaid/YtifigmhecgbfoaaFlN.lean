/- mantillalaw15.awake: it is true; nothing that was there turns. -/
import Derived.Test.YtifigmhecgbfoaaFlM
namespace Go.Proofs.Ytifigmhecgbfoaa
open Go.RowKit

section
variable {B : Nat} {w0 w w' : World} {p : Nat} {f : Fl}
/-- Came with a range that is written out. -/
theorem came_lit (f' : Fl) (ts : List Nat) (h : FlAt B w0 w p f) (lo hi : Nat) (m : Nat × Nat) (hgood : ([⟨lo, hi⟩] : List Rg).any (rbad f) = false)
    (hts : fnums f (qcame [⟨lo, hi⟩]) = ts) (hf : ftake (fheard f [⟨lo, hi⟩]) (qcame [⟨lo, hi⟩]) = f') :
    Calls Try.prog 15 #[.pointer (some ⟨p, 0, none⟩), .slice (some ⟨w.heap.size, 0, none⟩) 1 1] (w.alloc (.cells #[.int .u64 lo, .int .u64 hi] 35 m)) fun e w' =>
      ∃ Ao co, e = .returned (.tuple #[.slice Ao ts.length co, .bool true]) ∧ w'.ownsRow B 27 1 (.slice Ao ts.length co) ts.length (nv ts) ∧ FlAt B w0 w' p f' ∧ Kp w w' := by
  have hp : p < w.heap.size := by obtain ⟨A, c, hI, _⟩ := h; exact hI.lt
  refine (came_at f' ts (h.alloc _) [⟨lo, hi⟩] _ 1 (Rd.fresh_mark w (rgv [⟨lo, hi⟩]) _ m) (fun _ a ha => ?_) (by simp) hgood hts hf).mono ?_
  · injection ha with ha
    subst ha
    have e : (w.alloc (.cells (rgv [⟨lo, hi⟩]).toArray 35 m)).heap[w.heap.size]? = some (.cells (rgv [⟨lo, hi⟩]).toArray 35 m) := heap_alloc_new w _
    refine ⟨by simp only; omega, by rw [e]; simp, fun cs m' => ?_⟩
    rw [e]
    intro x
    injection x with x
    injection x with _ x
    exact absurd x (by decide)
  · rintro e w' ⟨Ao, co, rfl, ho, hF, hK⟩
    exact ⟨Ao, co, rfl, ho, hF, (Kp.below ((Below.refl _ w).alloc (Nat.le_refl _) _)).trans hK⟩
theorem cameno_lit (h : FlAt B w0 w p f) (lo hi : Nat) (m : Nat × Nat) (hbad : ([⟨lo, hi⟩] : List Rg).any (rbad f) = true) :
    Calls Try.prog 15 #[.pointer (some ⟨p, 0, none⟩), .slice (some ⟨w.heap.size, 0, none⟩) 1 1] (w.alloc (.cells #[.int .u64 lo, .int .u64 hi] 35 m)) fun e w' =>
      e = .returned (.tuple #[.slice none 0 0, .bool false]) ∧ FlAt B w0 w' p f ∧ Kp w w' := by
  refine (cameno_at (h.alloc _) [⟨lo, hi⟩] _ 1 (Rd.fresh_mark w (rgv [⟨lo, hi⟩]) _ m) (by simp) hbad).mono ?_
  rintro e w' ⟨rfl, hF, hb⟩
  exact ⟨rfl, hF, (Kp.below ((Below.refl _ w).alloc (Nat.le_refl _) _)).trans (Kp.below hb)⟩
theorem Kp.own {b : Nat} {e : TypeId} {s n : Nat} {v : Value} {xs : List Value} (h : Kp w w') (ho : w.ownsRow b e s v n xs) (h1 : (e == 60) = false) (h2 : (e == 62) = false) : w'.ownsRow b e s v n xs := h _ _ _ _ _ _ h1 h2 ho
end

def aw1 : Fl := lateF (fun _ => true) 4
def aw2 : Fl := ⟨[⟨0, 0, true⟩, ⟨1, 1, true⟩, ⟨2, 2, true⟩], true, true, 3, 3, 3⟩
def aw3 : Fl := ⟨[⟨1, 1, true⟩, ⟨2, 2, true⟩], true, true, 3, 3, 3⟩
theorem aw_good : ([⟨3, 3⟩] : List Rg).any (rbad aw1) = false := by decide
theorem aw_t2 : fnums aw1 (qcame [⟨3, 3⟩]) = [3] := by decide
theorem aw_f2 : ftake (fheard aw1 [⟨3, 3⟩]) (qcame [⟨3, 3⟩]) = aw2 := by rfl
theorem aw_t3 : fnums aw2 (qlost aw2.came aw2.largest 5 (max 40 1)) = [0] := by decide
theorem aw_f3 : ftake aw2 (qlost aw2.came aw2.largest 5 (max 40 1)) = aw3 := by rfl
theorem aw_bad : ([⟨9, 9⟩] : List Rg).any (rbad aw3) = true := by decide

set_option maxRecDepth 100000 in
set_option maxHeartbeats 4000000 in
theorem awake_any (w : World) :
    Calls Try.prog 14 #[] w fun e w' => e = .returned (.bool true) ∧ Below w.heap.size w w' := by
  go_enter Try.func14, Try.ntmps14
  go_wp2_with fail
  refine (new_at w.heap.size w w (Below.refl _ w) (Nat.le_refl _)).mono ?_
  rintro e w1 ⟨p, rfl, H1, -⟩
  replace H1 := Lib.hid H1
  go_wp2_with fail
  go_loopw [2] (fun i wr => ∃ k : Nat, k ≤ 4 ∧ i = .int .i64 k ∧ Hid (FlAt w.heap.size w wr p (lateF (fun _ => true) k))) (fun i _ => 4 - (intOf i).toNat)
  case atStart => exact ⟨0, by omega, rfl, H1⟩
  case round =>
    clear H1
    obtain ⟨k, hk, rfl, H⟩ := hrel
    by_cases hk4 : k < 4
    · go_wp2_with fail
      refine (sent_at (lateF (fun _ => true) (k + 1)) H.out k k true (by simp [lateF]; omega) (by omega) (lateF_ok _ k (by omega)) (lateF_succ _ k)).mono ?_
      rintro e w2 ⟨rfl, H2, -⟩
      replace H2 := Lib.hid H2
      clear H
      go_wp2_with fail
      go_roundw
      case rel => exact ⟨k + 1, by omega, by go_num, H2⟩
      case measure => simp [intOf]; omega
    · have : k = 4 := by omega
      subst this
      go_wp2_with fail
      refine (came_lit aw2 [3] H.out 3 3 _ aw_good aw_t2 aw_f2).mono ?_
      rintro e w2 ⟨A2, c2, rfl, o2, H2, -⟩
      clear H
      replace H2 := Lib.hid H2
      replace o2 := Lib.hid o2
      go_wp2_with fail
      refine (lost_at aw3 [0] H2.out 5 40 (by decide) aw_t3 aw_f3).mono ?_
      rintro e w3 ⟨A3, c3, rfl, o3, H3, K3⟩
      replace o2 := Lib.hid (K3.own o2.out rfl rfl)
      replace o3 := Lib.hid o3
      replace H3 := Lib.hid H3
      clear H2 K3
      go_wp2_with fail
      refine (cameno_lit H3.out 9 9 _ aw_bad).mono ?_
      rintro e w4 ⟨rfl, H4, K4⟩
      replace o2 := Lib.hid (K4.own o2.out rfl rfl)
      replace o3 := Lib.hid (K4.own o3.out rfl rfl)
      replace H4 := Lib.hid H4
      clear H3 K4
      go_wp2_with fail
      refine (largest_at 3 true H4.out rfl rfl).mono ?_
      rintro e w5 ⟨rfl, S5⟩
      replace o2 := Lib.hid (S5.own o2.out)
      replace o3 := Lib.hid (S5.own o3.out)
      replace H4 := Lib.hid (H4.out.below S5.below)
      clear S5
      go_wp2_with fail
      refine (still_of (samen_any [3] [3] _ _ _ _ _ ((Rd.of_own o2.out).alloc _) (Rd.fresh_mark _ (nv [3]) _ _) (by decide) (by decide))).mono ?_
      rintro e w6 ⟨rfl, S6⟩
      rw [show decide (([3] : List Nat) = [3]) = true from rfl]
      replace o3 := Lib.hid (S6.own (o3.out.alloc _))
      replace H4 := Lib.hid ((H4.out.alloc _).below S6.below)
      clear S6
      go_wp2_with fail
      refine (still_of (samen_any [0] [0] _ _ _ _ _ ((Rd.of_own o3.out).alloc _) (Rd.fresh_mark _ (nv [0]) _ _) (by decide) (by decide))).mono ?_
      rintro e w7 ⟨rfl, S7⟩
      rw [show decide (([0] : List Nat) = [0]) = true from rfl]
      replace H4 := Lib.hid ((H4.out.alloc _).below S7.below)
      clear S7
      go_wp2_with fail
      refine (under_at 2 H4.out rfl).mono ?_
      rintro e w8 ⟨rfl, rfl⟩
      go_wp2_with fail
      refine (sentno_at H4.out 2 9 true (by decide) (by decide)).mono ?_
      rintro e w9 ⟨rfl, rfl⟩
      go_wp2_with fail
      go_ret
      exact ⟨rfl, H4.out.bl⟩
end Go.Proofs.Ytifigmhecgbfoaa
