/- IncomeTurns2: the walk. -/
import Derived.Test.YtlaomllgjiochaaIncL
import Derived.Test.YtlaomllgjiochaaLow
namespace Go.Proofs.Ytlaomllgjiochaa
open Go.RowKit

set_option maxRecDepth 100000 in
set_option maxHeartbeats 8000000 in
theorem turns2_in (l : List UInt8) (A : Option Addr) (cap : Nat) (at0 : Int) (b : UInt8) (k : Nat) (w : World) (hr : Rd w A (bv l)) (h0 : 0 < l.length) (h1 : l.length ≤ 100) (hk : k < l.length)
    (D1 : Hid (∀ w : World, Calls Try.prog 11 #[.int .i64 at0, .int .i64 l.length] w fun e w' => e = .returned (.int .i64 k) ∧ w = w')) (eq : Bool) (he : Hid ((l[k]? = some b) ↔ eq = true)) (v : Int) (hv : Hid (l[k]?.map (fun x => (x.toNat : Int)) = some v)) (hvb : ((v : Int) == (b.toNat : Int)) = eq) :
    Calls Try.prog 3 #[.slice A l.length cap, .int .i64 at0, .int .u8 b.toNat] w fun e w' => e = .returned (.bool true) ∧ Below w.heap.size w w' := by
  have hz : ((l.length : Int) == 0) = false := beq_eq_false_iff_ne.2 (by omega)
  have P1 := Lib.hid (fresh_put (l.length + 5) l h0 (by omega))
  have PB := Lib.hid (full_end (l.length + 5) l [b] 0 l.length false (by simp <;> omega) (.inl (by simp <;> omega)))
  have PC := Lib.hid (full_end (l.length + 5) l [] 0 k true (by simp <;> omega) (.inr ⟨rfl, by simp; omega⟩))
  have PD := Lib.hid (by have h := full_end (l.length + 5) l [] 0 (l.length + 1) true (by simp <;> omega) (.inl (by simp <;> omega)); rw [show ((l.length + 1 : Nat) : Int) = (l.length : Int) + 1 from by omega] at h; exact h)
  have PE := Lib.hid (full_same (l.length + 5) l [] 0 l.length true (by simp <;> omega) (by simp) (fun _ => by simp) (fun j hj => by simp at hj))
  have PF := Lib.hid (by have h := full_bound (l.length + 5) l [b] 0 (l.length + 5) false (by simp <;> omega); rw [show ((l.length + 5 : Nat) : Int) = (l.length : Int) + 5 from by omega] at h; exact h)
  have PG : Hid (ireadn (ifull (l.length + 5) l 0) k = k ∧ ibytes (ifull (l.length + 5) l 0) k = l.take k ∧ iread (ifull (l.length + 5) l 0) k = ifull (l.length + 5) l k) := Lib.hid (by
    have := full_read (l.length + 5) l 0 k (by omega) (by omega)
    rw [show min (k : Int).toNat (l.length - 0) = k from by omega, Nat.zero_add] at this
    exact this)
  have PH : Hid (ireadn (ifull (l.length + 5) l k) 1000 = l.length - k ∧ ibytes (ifull (l.length + 5) l k) (l.length - k) = l.drop k ∧ iread (ifull (l.length + 5) l k) 1000 = ifull (l.length + 5) l l.length) := Lib.hid (by
    have := full_read (l.length + 5) l k 1000 (by omega) (by omega)
    rw [show min (1000 : Int).toNat (l.length - k) = l.length - k from by omega, show k + (l.length - k) = l.length from by omega, List.take_of_length_le (l := l.drop k) (by simp)] at this
    exact this)
  go_enter Try.func3, Try.ntmps3
  go_wp2_with fail
  refine (new_at w.heap.size w w ((l.length : Int) + 5) (Below.refl _ _) (Nat.le_refl _) (by omega) (by omega)).mono ?_
  rintro e w1 ⟨rfl, I1, hb1⟩
  obtain ⟨p, hp⟩ : ∃ p, w.heap.size = p := ⟨_, rfl⟩
  rw [hp] at I1 ⊢
  have R1 := Lib.hid (hr.below hb1)
  replace hp := Lib.hid hp
  replace hr := Lib.hid hr
  clear hb1
  replace I1 := I1.here
  go_wp2_with (at_builtin; refine wpList_appG _ (by rfl) _ _ 22 rfl w1.heap.size 5 (.int .u8 0) 1 infoB Try.underlying22 rfl (.slice none 0 0) 0 [] (by rfl) (World.ownsRow_nil _ _ _ _) A l.length cap (bv l) (by rfl) (by simp) R1.out (bv_one l) (by unfold maxLen; omega) (by omega) (Nat.le_refl _) ?_; intro A2 c2 w2 hown hgrow hat)
  have hb2 : Below w1.heap.size w1 w2 := (Below.refl _ _).grown hgrow (Nat.le_refl _) (fun k hk => by simp [Value.ownBlock] at hk)
  replace I1 := I1.below hb2
  have R2 := Rd.of_own hown
  simp only [List.nil_append, Nat.zero_add] at R2
  have hA2 : ∀ a, A2 = some a → a.block < p ∨ w1.heap.size ≤ a.block := fun a ha => .inr (hown.lt a.block (by rw [ha]; rfl)).1
  replace R2 := Lib.hid R2
  replace hA2 := Lib.hid hA2
  clear hown hgrow hat hb2
  refine (put_at (ifull (l.length + 5) l 0) 0 c2 0 A2 l true I1 R2.out (fun _ a ha => hA2.out a ha) (by omega) (by omega) (P1.out).2 (P1.out).1).mono ?_
  rintro e w3 ⟨rfl, I3, -⟩
  clear I1 R1 R2 hA2 P1
  go_wp2_with fail
  refine (D1.out _).mono ?_
  rintro e w' ⟨rfl, rfl⟩
  have R3 := hr.out.below (by rw [hp.out]; exact I3.bel)
  obtain ⟨b1, o1, rfl, g1⟩ := R3.at_ (k := k) (by simpa using hk)
  clear R3
  simp only [bv, List.getElem_map] at g1
  have hv2 : Hid (((l[k]).toNat : Int) = v) := Lib.hid (by have := hv.out; rw [List.getElem?_eq_getElem hk] at this; simpa using this)
  rw [hv2.out] at g1
  have hk2 : (k : Int) ≤ 100 := by omega
  cases eq with
  | true =>
    have PA := Lib.hid (full_same (l.length + 5) l [b] 0 k false (by simp <;> omega) (by simp <;> omega) (fun h => by cases h) (fun j hj => by
      have : j = 0 := by simpa using hj
      subst this; simpa using he.out.2 rfl))
    go_wp2_with fail
    refine (put_at (ifull (l.length + 5) l 0) 0 1 k _ [b] false (I3.alloc _) (Rd.fresh _ (bv [b]) _) (fun _ a ha => fresh_far (Nat.le_refl _) ha) (by simp) (by omega) (PA.out).2 (PA.out).1).mono ?_
    rintro e w4 ⟨rfl, I4, -⟩
    clear I3
    go_wp2_with fail
    refine (put_at (ifull (l.length + 5) l 0) 12 1 l.length _ [b] false (I4.alloc _) (Rd.fresh _ (bv [b]) _) (fun _ a ha => fresh_far (Nat.le_refl _) ha) (by simp) (by omega) (PB.out).2 (PB.out).1).mono ?_
    rintro e w5 ⟨rfl, I5, -⟩
    clear I4
    go_wp2_with fail
    refine (put_at (ifull (l.length + 5) l 0) 12 0 k none [] true I5 (Rd.nil _ _) (fun h => by simp at h) (by decide) (by omega) (PC.out).2 (PC.out).1).mono ?_
    rintro e w6 ⟨rfl, I6, -⟩
    clear I5
    go_wp2_with fail
    refine (put_at (ifull (l.length + 5) l 0) 12 0 (l.length + 1) none [] true I6 (Rd.nil _ _) (fun h => by simp at h) (by decide) (by omega) (PD.out).2 (PD.out).1).mono ?_
    rintro e w7 ⟨rfl, I7, -⟩
    clear I6
    go_wp2_with fail
    refine (put_at (ifull (l.length + 5) l 0) 0 0 l.length none [] true I7 (Rd.nil _ _) (fun h => by simp at h) (by decide) (by omega) (PE.out).2 (PE.out).1).mono ?_
    rintro e w8 ⟨rfl, I8, -⟩
    clear I7
    go_wp2_with fail
    refine (put_at (ifull (l.length + 5) l 0) 11 1 (l.length + 5) _ [b] false (I8.alloc _) (Rd.fresh _ (bv [b]) _) (fun _ a ha => fresh_far (Nat.le_refl _) ha) (by simp) (by omega) (PF.out).2 (PF.out).1).mono ?_
    rintro e w9 ⟨rfl, I9, -⟩
    clear I8
    go_wp2_with fail
    refine (read_at k I9 I9.lt).mono ?_
    rintro e wa ⟨Aa, ca, rfl, hoa, Ia, hFa⟩
    rw [PG.out.1] at hoa ⊢
    rw [PG.out.2.1] at hoa
    rw [PG.out.2.2] at Ia
    go_wp2_with fail
    refine (read_at 1000 Ia (Nat.lt_of_lt_of_le I9.lt (Nat.le_refl _))).mono ?_
    rintro e wb ⟨Ab, cb, rfl, hob, Ib, hFb⟩
    rw [PH.out.1] at hob ⊢
    rw [PH.out.2.1] at hob
    rw [PH.out.2.2] at Ib
    have hoa2 := own_fr hoa hFb (fun j hj e => by have := (hoa.lt j hj).1; have := I9.lt; omega)
    have Rb := Rd.of_own hob
    have hsz : w9.heap.size ≤ wb.heap.size := Nat.le_trans hFa.size hFb.size
    replace hob := Lib.hid hob
    replace hoa := Lib.hid hoa
    go_wp2_with (at_builtin; refine wpList_appG _ (by rfl) _ _ 22 rfl w9.heap.size 5 (.int .u8 0) 1 infoB Try.underlying22 rfl (.slice Aa k ca) k (bv (l.take k)) (by rfl) hoa2 Ab (l.length - k) cb (bv (l.drop k)) (by rfl) (by simp) Rb (bv_one _) (by unfold maxLen; omega) (by omega) hsz ?_; intro Ac cc wc hown hgrow hat)
    have Ic := Ib.step (S := fun j => (Value.slice Aa k ca).ownBlock = some j) ((Fr.refl _ wb).grown hgrow (fun j hj _ => hj)) (fun j h1 h2 h3 => by have := (hoa2.lt j h3).1; omega) (fun j h3 _ => by have := (hoa2.lt j h3).1; have := I9.lt; omega)
    have Rc := Rd.of_own hown
    rw [← bv_append, List.take_append_drop] at Rc
    have Rl := hr.out.below (by rw [hp.out]; exact Ic.bel)
    replace hown := Lib.hid hown
    replace hgrow := Lib.hid hgrow
    replace hoa2 := Lib.hid hoa2
    replace hat := Lib.hid hat
    rw [show k + (l.length - k) = l.length from by omega]
    go_wp2_with fail
    refine (still_of (same_any l l Ac _ cc _ _ Rc Rl (by omega) (by omega))).mono ?_
    rintro e wd ⟨rfl, q⟩
    rw [show decide (l = l) = true from by simp]
    replace Ic := Ic.still q
    clear Rc Rl q
    go_wp2_with fail
    refine (ended_at Ic).mono ?_
    rintro e we ⟨rfl, q⟩
    rw [full_ended]
    replace Ic := Ic.still q
    go_wp2_with fail
    refine (awake_any _).mono ?_
    rintro e wf ⟨rfl, hbf⟩
    go_wp2_with fail
    go_ret
    exact ⟨rfl, by rw [hp.out]; exact (Ic.below hbf).bel⟩
  | false =>
    have PA := Lib.hid (full_other (l.length + 5) l 0 k b (by omega) hk (fun h => by have := he.out.1 h; cases this))
    go_wp2_with fail
    refine (put_at (ifull (l.length + 5) l 0) 12 1 k _ [b] false (I3.alloc _) (Rd.fresh _ (bv [b]) _) (fun _ a ha => fresh_far (Nat.le_refl _) ha) (by simp) (by omega) (PA.out).2 (PA.out).1).mono ?_
    rintro e w4 ⟨rfl, I4, -⟩
    clear I3
    go_wp2_with fail
    refine (put_at (ifull (l.length + 5) l 0) 12 1 l.length _ [b] false (I4.alloc _) (Rd.fresh _ (bv [b]) _) (fun _ a ha => fresh_far (Nat.le_refl _) ha) (by simp) (by omega) (PB.out).2 (PB.out).1).mono ?_
    rintro e w5 ⟨rfl, I5, -⟩
    clear I4
    go_wp2_with fail
    refine (put_at (ifull (l.length + 5) l 0) 12 0 k none [] true I5 (Rd.nil _ _) (fun h => by simp at h) (by decide) (by omega) (PC.out).2 (PC.out).1).mono ?_
    rintro e w6 ⟨rfl, I6, -⟩
    clear I5
    go_wp2_with fail
    refine (put_at (ifull (l.length + 5) l 0) 12 0 (l.length + 1) none [] true I6 (Rd.nil _ _) (fun h => by simp at h) (by decide) (by omega) (PD.out).2 (PD.out).1).mono ?_
    rintro e w7 ⟨rfl, I7, -⟩
    clear I6
    go_wp2_with fail
    refine (put_at (ifull (l.length + 5) l 0) 0 0 l.length none [] true I7 (Rd.nil _ _) (fun h => by simp at h) (by decide) (by omega) (PE.out).2 (PE.out).1).mono ?_
    rintro e w8 ⟨rfl, I8, -⟩
    clear I7
    go_wp2_with fail
    refine (put_at (ifull (l.length + 5) l 0) 11 1 (l.length + 5) _ [b] false (I8.alloc _) (Rd.fresh _ (bv [b]) _) (fun _ a ha => fresh_far (Nat.le_refl _) ha) (by simp) (by omega) (PF.out).2 (PF.out).1).mono ?_
    rintro e w9 ⟨rfl, I9, -⟩
    clear I8
    go_wp2_with fail
    refine (read_at k I9 I9.lt).mono ?_
    rintro e wa ⟨Aa, ca, rfl, hoa, Ia, hFa⟩
    rw [PG.out.1] at hoa ⊢
    rw [PG.out.2.1] at hoa
    rw [PG.out.2.2] at Ia
    go_wp2_with fail
    refine (read_at 1000 Ia (Nat.lt_of_lt_of_le I9.lt (Nat.le_refl _))).mono ?_
    rintro e wb ⟨Ab, cb, rfl, hob, Ib, hFb⟩
    rw [PH.out.1] at hob ⊢
    rw [PH.out.2.1] at hob
    rw [PH.out.2.2] at Ib
    have hoa2 := own_fr hoa hFb (fun j hj e => by have := (hoa.lt j hj).1; have := I9.lt; omega)
    have Rb := Rd.of_own hob
    have hsz : w9.heap.size ≤ wb.heap.size := Nat.le_trans hFa.size hFb.size
    replace hob := Lib.hid hob
    replace hoa := Lib.hid hoa
    go_wp2_with (at_builtin; refine wpList_appG _ (by rfl) _ _ 22 rfl w9.heap.size 5 (.int .u8 0) 1 infoB Try.underlying22 rfl (.slice Aa k ca) k (bv (l.take k)) (by rfl) hoa2 Ab (l.length - k) cb (bv (l.drop k)) (by rfl) (by simp) Rb (bv_one _) (by unfold maxLen; omega) (by omega) hsz ?_; intro Ac cc wc hown hgrow hat)
    have Ic := Ib.step (S := fun j => (Value.slice Aa k ca).ownBlock = some j) ((Fr.refl _ wb).grown hgrow (fun j hj _ => hj)) (fun j h1 h2 h3 => by have := (hoa2.lt j h3).1; omega) (fun j h3 _ => by have := (hoa2.lt j h3).1; have := I9.lt; omega)
    have Rc := Rd.of_own hown
    rw [← bv_append, List.take_append_drop] at Rc
    have Rl := hr.out.below (by rw [hp.out]; exact Ic.bel)
    replace hown := Lib.hid hown
    replace hgrow := Lib.hid hgrow
    replace hoa2 := Lib.hid hoa2
    replace hat := Lib.hid hat
    rw [show k + (l.length - k) = l.length from by omega]
    go_wp2_with fail
    refine (still_of (same_any l l Ac _ cc _ _ Rc Rl (by omega) (by omega))).mono ?_
    rintro e wd ⟨rfl, q⟩
    rw [show decide (l = l) = true from by simp]
    replace Ic := Ic.still q
    clear Rc Rl q
    go_wp2_with fail
    refine (ended_at Ic).mono ?_
    rintro e we ⟨rfl, q⟩
    rw [full_ended]
    replace Ic := Ic.still q
    go_wp2_with fail
    refine (awake_any _).mono ?_
    rintro e wf ⟨rfl, hbf⟩
    go_wp2_with fail
    go_ret
    exact ⟨rfl, by rw [hp.out]; exact (Ic.below hbf).bel⟩
end Go.Proofs.Ytlaomllgjiochaa
