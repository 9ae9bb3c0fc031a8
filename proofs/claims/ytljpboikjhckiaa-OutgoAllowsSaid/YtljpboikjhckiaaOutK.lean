/- OutgoPieces: the plain law, and the walk. -/
import Derived.Test.YtljpboikjhckiaaOutJ
namespace Go.Proofs.Ytljpboikjhckiaa
open Go.RowKit

def opc (u : UInt8) (a : Nat) (i : Nat) : UInt8 := if i < a then 1 else u
theorem opc_zero (n : Nat) (u : UInt8) : mk n (opc u 0) = mk n fun _ => u := mk_ext fun i _ => by simp [opc]
theorem piece_step {D : List UInt8} {n a k : Nat} {room : Int} {u : UInt8} (hu : u = 0 ∨ u = 2) (ha : a < n ∨ (n = 0 ∧ a = 0)) (hroom : 1 ≤ room) (hk : (k : Int) = min room ((n : Int) - a)) :
    oNext D (mk n (opc u a)) n room n = ((a : Int), (D.drop a).take k, decide (a + k = n), true, if a + k = n then mk n (fun _ => 1) else mk n (opc u (a + k))) := by
  have hst : ∀ f : Nat → UInt8, (∀ i, i ≤ n → f i = if a ≤ i ∧ i < a + k then 1 else if i = n ∧ a + k = n then 1 else opc u a i) → mk n f = if a + k = n then mk n (fun _ => 1) else mk n (opc u (a + k)) := by
    intro f hf
    by_cases he : a + k = n
    · rw [if_pos he]
      apply mk_ext
      intro i hi
      rw [hf i hi]
      simp only [opc]
      (repeat' split) <;> first | rfl | omega
    · rw [if_neg he]
      apply mk_ext
      intro i hi
      rw [hf i hi]
      simp only [opc]
      (repeat' split) <;> first | rfl | omega
  have hun : opc u a n = u := by simp only [opc]; rw [if_neg (by omega)]
  rcases ha with ha | ⟨hn, ha⟩
  · have hpre : ∀ j, j < a → opc u a j = 1 := fun j hj => by simp only [opc, if_pos hj]
    have hpost : ∀ j, a ≤ j → opc u a j = u := fun j hj => by simp only [opc]; rw [if_neg (by omega)]
    rcases hu with rfl | rfl
    · have := mk_next_new (D := D) (n := n) (a := a) (r := n - a) (f := opc 0 a) (room := room) (allow := n) hroom (fun j hj => by simp only [opc]; split <;> decide) (by rw [hun]; decide) (fun j hj => by rw [hpre j hj]; decide) ha (by omega) (fun j h1 h2 => hpost j h1) (by omega) (by omega) (fun h => by omega) k (by omega)
      rw [this, hun, decide_eq_true (rfl : (0 : UInt8) = 0), Bool.and_true]
      congr 4
      apply hst
      intro i hi
      simp only [and_true]
    · have := mk_next_lost (D := D) (n := n) (a := a) (r := n - a) (f := opc 2 a) (room := room) (allow := n) hroom (fun j hj => by rw [hpre j hj]; decide) ha (fun j h1 h2 => hpost j h1) (by omega) (by omega) (fun h => by omega) k (by omega)
      rw [this, hun, show (decide ((2 : UInt8) = 0) || decide ((2 : UInt8) = 2)) = true from rfl, Bool.and_true]
      congr 4
      apply hst
      intro i hi
      simp only [or_true, and_true]
  · subst hn ha
    have hk0 : k = 0 := by omega
    subst hk0
    have := mk_next_end (D := D) (n := 0) (f := opc u 0) (room := room) (allow := (0 : Nat)) (fun j hj => by omega) (by rw [hun]; rcases hu with rfl | rfl; exact .inr ⟨rfl, fun j hj => by omega⟩; exact .inl rfl)
    rw [this]
    simp only [List.take_zero, Nat.add_zero, if_true, decide_true]
    congr 4
theorem piece_none (D : List UInt8) (n : Nat) (room : Int) : oNext D (mk n fun _ => 1) n room n = (0, [], false, false, mk n fun _ => 1) :=
  mk_next_none (a := n) (fun _ _ => by decide) (by decide) (fun _ _ => by decide) (by omega) (fun h => by omega) (fun _ => by decide)
theorem piece_sent (n : Nat) : cntNe ((mk n fun _ => 1).take n) 0 = n := mk_cnt_pre (Nat.le_refl _) (fun _ _ => by decide) (fun i h1 h2 => by omega)
theorem piece_left (n : Nat) : cntNe ((mk n fun _ => 1).take n) 3 = n := mk_cnt_pre (Nat.le_refl _) (fun _ _ => by decide) (fun i h1 h2 => by omega)
theorem piece_notdone (n : Nat) : odone (mk n fun _ => 1) n = false := by
  unfold odone; rw [mk_end]; simp
theorem piece_lost (n : Nat) : oturn (mk n fun _ => 1) n 0 n true 2 [1] = mk n fun _ => 2 := by
  rw [mk_turn, onorm_pos (by omega)]
  apply mk_ext
  intro i hi
  rw [turn_eval]
  by_cases h : i = n
  · rw [if_pos ⟨.inr ⟨h, rfl⟩, by decide⟩]
  · rw [if_pos ⟨.inl ⟨by omega, by omega, by omega, by omega⟩, by decide⟩]
theorem piece_there (n : Nat) : oturn (mk n fun _ => 1) n 0 n true 3 [1, 2] = mk n fun _ => 3 := by
  rw [mk_turn, onorm_pos (by omega)]
  apply mk_ext
  intro i hi
  rw [turn_eval]
  by_cases h : i = n
  · rw [if_pos ⟨.inr ⟨h, rfl⟩, by decide⟩]
  · rw [if_pos ⟨.inl ⟨by omega, by omega, by omega, by omega⟩, by decide⟩]

/-- The state of all at the head of round k of t + 1. -/
def ou (t k : Nat) : UInt8 := if k = 0 then 0 else if k ≤ t then 2 else 1

set_option maxRecDepth 100000 in
set_option maxHeartbeats 8000000 in
theorem pieces_in (D : List UInt8) (A : Option Addr) (n cap : Nat) (room0 times0 : Int) (r0 t : Nat) (w : World) (hDl : Hid (D.length = n)) (hr : Rd w A (bv D)) (hc : n ≤ cap) (hcm : cap ≤ 9223372036854775807) (h0 : n ≤ 200) (hr0 : r0 < 50) (ht : t < 4)
    (D1 : Hid (∀ w : World, Calls Try.prog 24 #[.int .i64 room0, .int .i64 50] w fun e w' => e = .returned (.int .i64 r0) ∧ w = w'))
    (D2 : Hid (∀ w : World, Calls Try.prog 24 #[.int .i64 times0, .int .i64 4] w fun e w' => e = .returned (.int .i64 t) ∧ w = w')) :
    Calls Try.prog 6 #[.slice A n cap, .int .i64 room0, .int .i64 times0] w fun e w' => e = .returned (.bool true) ∧ Below w.heap.size w w' := by
  obtain ⟨R, hR⟩ : ∃ R : Nat, (1 : Int) + r0 = R := ⟨1 + r0, by omega⟩
  have hRb : 1 ≤ R ∧ R ≤ 50 := by omega
  replace hR := Lib.hid hR
  have hdl : decide (200 < (n : Int)) = false := decide_eq_false (by omega)
  have HR := Lib.hid hr
  clear hr
  go_enter Try.func6, Try.ntmps6
  go_wp2_with fail
  refine (D1.out _).mono ?_
  rintro e w' ⟨rfl, rfl⟩
  go_wp2_with fail
  refine (D2.out _).mono ?_
  rintro e w' ⟨rfl, rfl⟩
  rw [hR.out]
  go_wp2_with (at_builtin; refine wpList_app _ rfl _ _ 22 (by rfl) w.heap.size 5 (.int .u8 0) 1 infoB Try.underlying22 rfl (.slice none 0 0) 0 [] (by rfl) (World.ownsRow_nil _ _ _ _) A n cap (bv D) (by rfl) (by rw [bv_length]; exact hDl.out) HR.out (bv_one _) (by unfold maxLen; omega) (by omega) (Nat.le_refl _) ?_; intro A1 c1 w1 hown hgrow hat)
  have hb1 : Below w.heap.size w w1 := (Below.refl _ _).grown hgrow (Nat.le_refl _) (fun k hk => by simp [Value.ownBlock] at hk)
  simp only [List.nil_append, Nat.zero_add] at hown ⊢
  have hA1 : Hid (A1 = none → c1 = 0) := Lib.hid (fun h => by
    rcases own_cases hown with ⟨_, _, h3, _⟩ | ⟨g, h3, _⟩
    · exact h3
    · rw [h] at h3; cases h3)
  have R1 := Lib.hid (Rd.of_own hown)
  have hs1 := hb1.size
  replace hown := Lib.hid hown
  replace hgrow := Lib.hid hgrow
  replace hat := Lib.hid hat
  replace hb1 := Lib.hid hb1
  refine (onew_at w.heap.size w w1 D A1 n c1 hDl.out hb1.out hs1 R1.out hA1.out (by omega)).mono ?_
  rintro e w2 ⟨p, g, AD, cD, rfl, I2, -, -, -, -⟩
  rw [mk_zero] at I2
  replace I2 := Lib.hid I2
  clear hs1
  go_wp2_with fail
  go_loopw [8] (fun i wr => ∃ k : Nat, k ≤ t + 1 ∧ i = .int .i64 k ∧ OutAt w.heap.size w wr p g n AD cD D (mk n fun _ => ou t k)) (fun i _ => t + 1 - (intOf i).toNat)
  case atStart => exact ⟨0, by omega, rfl, I2.out⟩
  case round =>
    obtain ⟨k, hk, rfl, I3⟩ := hrel
    clear I2
    by_cases hkt : k < t + 1
    · obtain ⟨u, hu⟩ : ∃ u, ou t k = u := ⟨_, rfl⟩
      have hu2 : Hid (u = 0 ∨ u = 2) := Lib.hid (by
        rw [← hu, ou]; split
        · exact .inl rfl
        · rw [if_pos (by omega)]; exact .inr rfl)
      rw [hu, ← opc_zero] at I3
      replace hu := Lib.hid hu
      replace I3 := Lib.hid I3
      have hkd : decide (k ≤ t) = true := decide_eq_true (by omega)
      go_wp2_with fail
      go_loopw [9, 10] (fun a i wr => ∃ at_ j : Nat, j ≤ at_ ∧ (at_ < n ∨ (n = 0 ∧ at_ = 0)) ∧ a = .int .i64 at_ ∧ i = .int .i64 j ∧ OutAt w.heap.size w wr p g n AD cD D (mk n (opc u at_))) (fun _ i _ => n + 1 - (intOf i).toNat)
      case atStart => exact ⟨0, 0, by omega, by omega, rfl, rfl, I3.out⟩
      case round =>
        obtain ⟨a, j, hja, han, rfl, rfl, I4⟩ := hrel
        clear I3
        obtain ⟨m, hm⟩ : ∃ m : Nat, (m : Int) = min (R : Int) ((n : Int) - a) := ⟨min R (n - a), by omega⟩
        have HMn := fun ts t w => run_min2 (P := Try.prog) R ((n : Int) - a) m hm ts t w
        have hmb : a + m ≤ n ∧ (a + m = n ∨ 1 ≤ m) := by omega
        have hlm : Hid (((D.drop a).take m).length = m) := Lib.hid (by have := hDl.out; simp; omega)
        have hst := Lib.hid (piece_step (D := D) (room := R) hu2.out han (by omega) hm)
        obtain ⟨X, K, qX⟩ := cut_lhI (P := Try.prog) Try.underlying22 infoB A n cap a (a + m) (a : Int) ((a : Int) + m) rfl (by omega) (by omega) (by omega)
        rw [Nat.add_sub_cancel_left] at K
        replace qX := Lib.hid qX
        replace hm := Lib.hid hm
        have hjd : decide (j ≤ n) = true := decide_eq_true (by omega)
        go_wp2_with fail
        refine (onext_at I4 R n a ((D.drop a).take m) m (decide (a + m = n)) true _ (by omega) (by omega) (by omega) (by omega) hlm.out hst.out).mono ?_
        rintro r w5 ⟨A5, c5, rfl, ho5, I5, -⟩
        have R5 := Lib.hid (Rd.of_own ho5)
        have haa : ((a : Int) != (a : Int)) = false := by simp
        clear I4 ho5
        by_cases hend : a + m = n
        · rw [decide_eq_true hend]
          rw [if_pos hend] at I5
          have he1 : (((a : Int) + m) == (n : Int)) = true := beq_iff_eq.2 (by omega)
          replace I5 := Lib.hid I5
          replace hend := Lib.hid hend
          go_wp2_with fail
          refine (same_eq ((D.drop a).take m) m A5 X c5 (cap - a) _ hlm.out R5.out (by have := qX.out.bytes (HR.out.below I5.out.bel) (by have := hDl.out; omega) (by have := hDl.out; omega); rwa [Nat.add_sub_cancel_left] at this) (by omega)).mono ?_
          rintro e w6 ⟨rfl, q⟩
          have I6 := I5.out.still q
          clear q
          go_wp2_with fail
          refine (onext_at I6 R n 0 [] 0 false false _ (by omega) (by omega) (by omega) (by omega) rfl (piece_none D n R)).mono ?_
          rintro r w7 ⟨A7, c7, rfl, -, I7, -⟩
          clear I6
          go_wp2_with fail
          refine (osent_at I7 n (piece_sent n)).mono ?_
          rintro e w8 ⟨rfl, q⟩
          have I8 := I7.still q
          clear q I7
          have hnn : ((n : Int) != (n : Int)) = false := by simp
          go_wp2_with fail
          refine (oleft_at I8 n (piece_left n)).mono ?_
          rintro e w9 ⟨rfl, q⟩
          have I9 := I8.still q
          clear q I8
          go_wp2_with fail
          refine (odone_at I9 false (piece_notdone n)).mono ?_
          rintro e wa ⟨rfl, q⟩
          have Ia := I9.still q
          clear q I9
          by_cases hkl : k < t
          · have hou : ou t (k + 1) = 2 := by rw [ou, if_neg (by omega), if_pos (by omega)]
            replace hou := Lib.hid hou
            go_wp2_with fail
            refine (olost_at Ia 0 n true _ (by omega) (by omega) (by omega) (by omega) (piece_lost n)).mono ?_
            rintro r wb ⟨rfl, Ib, -⟩
            clear Ia
            go_wp2_with fail
            go_roundw
            case rel => exact ⟨k + 1, by omega, by go_num, by rw [hou.out]; exact Ib⟩
            case measure => simp [intOf] <;> omega
          · have hou : ou t (k + 1) = 1 := by rw [ou, if_neg (by omega), if_neg (by omega)]
            replace hou := Lib.hid hou
            go_wp2_with fail
            go_roundw
            case rel => exact ⟨k + 1, by omega, by go_num, by rw [hou.out]; exact Ia⟩
            case measure => simp [intOf] <;> omega
        · rw [decide_eq_false hend]
          rw [if_neg hend] at I5
          have he1 : (((a : Int) + m) == (n : Int)) = false := beq_eq_false_iff_ne.2 (by omega)
          have hend2 : a + m < n ∧ 1 ≤ m := by omega
          replace I5 := Lib.hid I5
          replace hend := Lib.hid hend
          go_wp2_with fail
          refine (same_eq ((D.drop a).take m) m A5 X c5 (cap - a) _ hlm.out R5.out (by have := qX.out.bytes (HR.out.below I5.out.bel) (by have := hDl.out; omega) (by have := hDl.out; omega); rwa [Nat.add_sub_cancel_left] at this) (by omega)).mono ?_
          rintro e w6 ⟨rfl, q⟩
          have I6 := I5.out.still q
          clear q
          go_wp2_with fail
          go_roundw
          case rel => exact ⟨a + m, j + 1, by omega, by omega, by go_num, by go_num, I6⟩
          case measure => simp [intOf] <;> omega
    · have hk2 : k = t + 1 := by omega
      have hou : ou t k = 1 := by rw [ou, if_neg (by omega), if_neg (by omega)]
      rw [hou] at I3
      replace hou := Lib.hid hou
      replace hk2 := Lib.hid hk2
      go_wp2_with fail
      refine (othere_at I3 0 n true _ (by omega) (by omega) (by omega) (by omega) (piece_there n)).mono ?_
      rintro r we ⟨rfl, Ie, -⟩
      clear I3
      go_wp2_with fail
      refine (odone_at Ie true (mk_done (fun _ _ => rfl))).mono ?_
      rintro e wg ⟨rfl, q⟩
      replace Ie := Ie.still q
      clear q
      go_wp2_with fail
      refine (oleft_at Ie 0 (mk_cnt_pre (by omega) (fun i hi => by omega) (fun _ _ _ => rfl))).mono ?_
      rintro e wh ⟨rfl, q⟩
      replace Ie := Ie.still q
      clear q
      go_wp2_with fail
      refine (awake_any _).mono ?_
      rintro e wi ⟨rfl, hbi⟩
      go_wp2_with fail
      go_ret
      exact ⟨rfl, (Ie.below hbi).bel⟩

set_option maxHeartbeats 2000000 in
theorem pieces_out (n : Nat) (A : Option Addr) (cap : Nat) (a b : Int) (w : World) (hn : n ≤ 9223372036854775807) (h : 200 < n) :
    Calls Try.prog 6 #[.slice A n cap, .int .i64 a, .int .i64 b] w fun e w' => e = .returned (.bool true) ∧ Below w.heap.size w w' := by
  go_enter Try.func6, Try.ntmps6
  go_wp2_with fail
  refine (awake_any _).mono ?_
  rintro e wf ⟨rfl, hbf⟩
  go_wp2_with fail
  go_ret
  exact ⟨rfl, hbf⟩
theorem pieces_any (D : List UInt8) (A : Option Addr) (cap : Nat) (a b : Int) (w : World) (hr : Rd w A (bv D)) (hc : D.length ≤ cap) (hcm : cap ≤ 9223372036854775807) :
    Calls Try.prog 6 #[.slice A D.length cap, .int .i64 a, .int .i64 b] w fun e w' => e = .returned (.bool true) ∧ Below w.heap.size w w' := by
  by_cases h : 200 < D.length
  · exact pieces_out D.length A cap a b w (by omega) h
  · obtain ⟨r0, hr0, D1⟩ := low_ex a 50 (by omega) (by omega)
    obtain ⟨t, ht, D2⟩ := low_ex b 4 (by omega) (by omega)
    exact pieces_in D A D.length cap a b r0 t w (Lib.hid rfl) hr hc hcm (by omega) hr0 ht (Lib.hid D1) (Lib.hid D2)
end Go.Proofs.Ytljpboikjhckiaa
