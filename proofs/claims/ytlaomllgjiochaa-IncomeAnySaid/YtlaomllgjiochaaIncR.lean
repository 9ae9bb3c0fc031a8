/- IncomeAny: the walk. -/
import Derived.Test.YtlaomllgjiochaaIncQ
import Derived.Test.YtlaomllgjiochaaIncK
import Derived.Test.YtlaomllgjiochaaLow
import Derived.Test.YtlaomllgjiochaaCut
namespace Go.Proofs.Ytlaomllgjiochaa
open Go.RowKit

/-- Between two pieces. -/
def AnySt (D : List UInt8) (p : Nat) (w w' : World) (done : Prop) : Prop :=
  ∃ s, IncAt p w'.heap.size w w' p s ∧ Part D s ∧ s.rd = 0 ∧ (done → s.en = D.length ∧ s.hi = D.length)
/-- One more piece, up to the end. -/
theorem any_put {D : List UInt8} {p : Nat} {w w' : World} {done : Prop} {A : Option Addr} {f n c : Nat} (hD : D.length ≤ 200) (h : AnySt D p w w' done) (hp : w.heap.size = p) (hr : Rd w A (bv (D.drop f))) (hf : f ≤ D.length) (hn : n = D.length - f) :
    Calls Try.prog 10 #[.pointer (some ⟨p, 0, none⟩), .int .i64 f, .slice A n c, .bool true] w' fun r w2 => r = .returned (.int .i64 0) ∧ AnySt D p w w2 True := by
  obtain ⟨s, hI, hP, hrd, _⟩ := h
  obtain ⟨h1, h2, h3, h4, h5, h6, h7⟩ := part_put (l := D.drop f) (off := f) (e := true) hP (fun k hk => by rw [List.getElem?_drop]) (by simp; omega) (fun _ => by simp; omega)
  have hr2 := hr.below (by rw [hp]; exact hI.bel)
  have hlen : n = (D.drop f).length := by simp [hn]
  subst hlen
  refine (put_at (iputs s f (D.drop f) true) 0 c f A (D.drop f) true hI hr2 (fun hn a ha => .inl ?_) (by simp; omega) (by omega) rfl h1).mono ?_
  · obtain ⟨a2, e2, hlt⟩ := hr.lt (by simpa using hn)
    rw [ha] at e2; injection e2 with e2; subst e2; rw [← hp]; exact hlt
  · rintro r w2 ⟨rfl, hI2, _⟩
    exact ⟨rfl, _, hI2, h2, by rw [h4]; exact hrd, fun _ => ⟨by rw [h6]; rfl, by rw [h7]; rfl⟩⟩
theorem rd_cut {w : World} {A : Option Addr} {D : List UInt8} {f cap : Nat} (hr : Rd w A (bv D)) (hf : f ≤ D.length) (hc : D.length ≤ cap) (h : cap ≠ f) : Rd w (Option.map (fun x => x.add f) A) (bv (D.drop f)) := by
  have h2 := hr.drop (k := f) (cap := cap) (by simpa using hf) (by simpa using hc)
  rw [if_neg h] at h2
  rw [bv, List.map_drop]; exact h2
theorem rd_end {w : World} {A : Option Addr} {D : List UInt8} {f : Nat} (h : D.length ≤ f) : Rd w A (bv (D.drop f)) := by
  rw [List.drop_eq_nil_of_le h]; exact Rd.nil _ _
theorem any_more {D : List UInt8} {p : Nat} {w w' : World} {A B : Prop} (h : AnySt D p w w' A) (hB : B → A) : AnySt D p w w' B := by
  obtain ⟨s, h1, h2, h3, h4⟩ := h
  exact ⟨s, h1, h2, h3, fun hb => h4 (hB hb)⟩
theorem any_last {D : List UInt8} {p : Nat} {w w' : World} {A : Option Addr} {c : Nat} (hD : D.length ≤ 200) (h : AnySt D p w w' True) (hp : w.heap.size = p) (hr : Rd w A (bv D)) :
    Calls Try.prog 10 #[.pointer (some ⟨p, 0, none⟩), .int .i64 0, .slice A D.length c, .bool false] w' fun r w2 => r = .returned (.int .i64 0) ∧ ∃ s, IncAt p w2.heap.size w w2 p s ∧ Part D s ∧ s.rd = 0 ∧ s.en = D.length ∧ s.hi = D.length ∧ ∀ i, i < D.length → Has s i := by
  obtain ⟨s, hI, hP, hrd, hen⟩ := h
  obtain ⟨h1, h2, h3, h4, h5, h6, h7⟩ := part_put (l := D) (off := 0) (e := false) hP (fun k hk => by rw [Nat.zero_add]) (by simp) (fun h => by cases h)
  have hr2 := hr.below (by rw [hp]; exact hI.bel)
  refine (put_at (iputs s 0 D false) 0 c 0 A D false hI hr2 (fun hn a ha => .inl ?_) (by omega) (by omega) rfl h1).mono ?_
  · obtain ⟨a2, e2, hlt⟩ := hr.lt (by simpa using hn)
    rw [ha] at e2; injection e2 with e2; subst e2; rw [← hp]; exact hlt
  · rintro r w2 ⟨rfl, hI2, _⟩
    refine ⟨rfl, _, hI2, h2, h4.trans hrd, h6.trans (hen trivial).1, ?_, fun i hi => (h3 i).2 (.inr ⟨Nat.zero_le _, by omega⟩)⟩
    rw [show iputs s 0 D false = iputs s ((0 : Nat) : Int) D false from rfl, h7]
    have := (hen trivial).2
    simp only [Bool.false_eq_true, if_false]
    split <;> omega

set_option maxRecDepth 100000 in
set_option maxHeartbeats 8000000 in
theorem iany_in (D : List UInt8) (A A1 : Option Addr) (cap cap1 : Nat) (cuts : List Int) (turn : Int) (back : Bool) (w : World) (hr : Rd w A (bv D)) (hr1 : Rd w A1 (cuts.map (Value.int .i64))) (hc : D.length ≤ cap) (hcm : cap ≤ 9223372036854775807) (h0 : D.length ≤ 200) (h1 : cuts.length ≤ 12) :
    Calls Try.prog 5 #[.slice A D.length cap, .slice A1 cuts.length cap1, .int .i64 turn, .bool back] w fun e w' => e = .returned (.bool true) ∧ Below w.heap.size w w' := by
  obtain ⟨t, ht, D1⟩ := low_ex turn (cuts.length + 1) (by omega) (by omega)
  replace D1 := Lib.hid D1
  have HR := Lib.hid hr
  have HR1 := Lib.hid hr1
  clear hr hr1
  obtain ⟨n, hn⟩ : ∃ n, cuts.length = n := ⟨_, rfl⟩
  rw [hn] at ht D1 h1 ⊢
  replace hn := Lib.hid hn
  have ncast : Hid (((n + 1 : Nat) : Int) = (n : Int) + 1) := Lib.hid (by omega)
  rw [ncast.out] at D1
  go_enter Try.func5, Try.ntmps5
  go_wp2_with fail
  refine (new_at w.heap.size w w 200 (Below.refl _ _) (Nat.le_refl _) (by omega) (by omega)).mono ?_
  rintro e w1 ⟨rfl, I1, hb1⟩
  obtain ⟨p, hp⟩ : ∃ p, w.heap.size = p := ⟨_, rfl⟩
  rw [hp] at I1 ⊢
  replace hp := Lib.hid hp
  have S1 : AnySt D p w w1 False := ⟨_, I1.here, part_new D 200 (by omega) (by omega), rfl, fun h => h.elim⟩
  replace S1 := Lib.hid S1
  clear I1 hb1
  go_wp2_with fail
  go_loopw [11] (fun i wr => ∃ r : Nat, r ≤ 2 ∧ i = .int .i64 r ∧ AnySt D p w wr (0 < r)) (fun i _ => 2 - (intOf i).toNat)
  case atStart => exact ⟨0, by omega, rfl, any_more S1.out (fun h => by omega)⟩
  case round =>
    obtain ⟨r, hr2, rfl, S2⟩ := hrel
    replace S2 := Lib.hid S2
    clear S1
    by_cases hlt : r < 2
    · have hdr : decide ((r : Int) < 2) = true := decide_eq_true (by omega)
      go_wp2_with fail
      go_loopw [12] (fun i wr => ∃ k : Nat, k ≤ n + 1 ∧ i = .int .i64 k ∧ AnySt D p w wr (0 < r ∨ 0 < k)) (fun i _ => n + 1 - (intOf i).toNat)
      case atStart => exact ⟨0, by omega, rfl, any_more S2.out (fun h => by omega)⟩
      case round =>
        obtain ⟨k, hk, rfl, S3⟩ := hrel
        clear S2
        replace S3 := Lib.hid S3
        by_cases hkn : k < n + 1
        · have key : ∀ j : Nat, j < n + 1 → ∃ f : Nat, f ≤ D.length ∧ (j = 0 → f = 0) ∧ (0 < j → ∃ c : Int, cuts[j - 1]? = some c ∧ ∀ w : World, Calls Try.prog 11 #[.int .i64 c, .int .i64 ((D.length : Int) + 1)] w fun e w' => e = .returned (.int .i64 f) ∧ w = w') := by
            intro j hj
            rcases Nat.eq_zero_or_pos j with h | h
            · exact ⟨0, by omega, fun _ => rfl, fun h2 => by omega⟩
            · have hn2 := hn.out
              obtain ⟨f, hf, hC⟩ := low_ex (cuts[j - 1]'(by omega)) (D.length + 1) (by omega) (by omega)
              rw [show ((D.length + 1 : Nat) : Int) = (D.length : Int) + 1 from by omega] at hC
              exact ⟨f, by omega, fun h2 => by omega, fun _ => ⟨_, List.getElem?_eq_getElem (by omega), hC⟩⟩
          have hjlt : (k + t) % (n + 1) < n + 1 := Nat.mod_lt _ (by omega)
          obtain ⟨j, hj⟩ : ∃ j, (k + t) % (n + 1) = j := ⟨_, rfl⟩
          rw [hj] at hjlt
          have HM : ((k : Int) + t) % ((n : Int) + 1) = j := by rw [← hj]; simp
          replace hj := Lib.hid hj
          cases back with
          | false =>
            obtain ⟨f, hf, hf0, hf1⟩ := key j hjlt
            rcases Nat.eq_zero_or_pos j with hj0 | hj0
            · obtain rfl := hf0 hj0
              clear hf1 hf0 key
              subst hj0
              go_wp2_with fail
              refine (D1.out _).mono ?_
              rintro e w' ⟨rfl, rfl⟩
              go_wp2_with fail
              refine (any_put h0 S3.out hp.out (f := 0) HR.out (by omega) (by omega)).mono ?_
              rintro e w2 ⟨rfl, S4⟩
              replace S4 := Lib.hid S4
              go_wp2_with fail
              go_roundw
              case rel => exact ⟨k + 1, by omega, by go_num, any_more S4.out (fun _ => trivial)⟩
              case measure => simp [intOf]; omega
            · obtain ⟨c, hcut, hC⟩ := hf1 hj0
              clear hf1 hf0 key
              obtain ⟨X, hX, qX⟩ := cut_lh (P := Try.prog) Try.underlying22 infoB A D.length cap f D.length hf hc
              have RX : Hid (Rd w X (bv (D.drop f))) := Lib.hid (by have := qX.bytes HR.out (Nat.le_refl _) hc; rwa [List.take_of_length_le (by simp)] at this)
              clear qX
              replace hcut := Lib.hid hcut
              replace hC := Lib.hid hC
              go_wp2_with fail
              refine (D1.out _).mono ?_
              rintro e w' ⟨rfl, rfl⟩
              have R1 := HR1.out.below (by have ⟨s, hI, _⟩ := S3.out; rw [hp.out]; exact hI.bel)
              obtain ⟨b1, o1, rfl, g1⟩ := R1.at_ (k := j - 1) (by simp [hn.out]; omega)
              simp only [List.getElem_map] at g1
              have gc : Hid (cuts[j - 1]'(by have := hn.out; omega) = c) := Lib.hid (by have := hcut.out; rw [List.getElem?_eq_getElem (by have := hn.out; omega)] at this; injection this)
              rw [gc.out] at g1
              clear R1
              go_wp2_with fail
              refine (hC.out _).mono ?_
              rintro e w' ⟨rfl, rfl⟩
              go_wp2_with fail
              all_goals
                refine (any_put h0 S3.out hp.out (f := f) RX.out hf (by omega)).mono ?_
                rintro e w2 ⟨rfl, S4⟩
                replace S4 := Lib.hid S4
                go_wp2_with fail
                go_roundw
                case rel => exact ⟨k + 1, by omega, by go_num, any_more S4.out (fun _ => trivial)⟩
                case measure => simp [intOf]; omega
          | true =>
            have hjc : (((n - j : Nat)) : Int) = (n : Int) - j := by omega
            replace hjc := Lib.hid hjc
            obtain ⟨f, hf, hf0, hf1⟩ := key (n - j) (by omega)
            rcases Nat.eq_zero_or_pos (n - j) with hj0 | hj0
            · obtain rfl := hf0 hj0
              clear hf1 hf0 key
              have hjn : j = n := by omega
              subst hjn
              go_wp2_with fail
              refine (D1.out _).mono ?_
              rintro e w' ⟨rfl, rfl⟩
              go_wp2_with fail
              refine (any_put h0 S3.out hp.out (f := 0) HR.out (by omega) (by omega)).mono ?_
              rintro e w2 ⟨rfl, S4⟩
              replace S4 := Lib.hid S4
              go_wp2_with fail
              go_roundw
              case rel => exact ⟨k + 1, by omega, by go_num, any_more S4.out (fun _ => trivial)⟩
              case measure => simp [intOf]; omega
            · obtain ⟨c, hcut, hC⟩ := hf1 hj0
              clear hf1 hf0 key
              obtain ⟨X, hX, qX⟩ := cut_lh (P := Try.prog) Try.underlying22 infoB A D.length cap f D.length hf hc
              have RX : Hid (Rd w X (bv (D.drop f))) := Lib.hid (by have := qX.bytes HR.out (Nat.le_refl _) hc; rwa [List.take_of_length_le (by simp)] at this)
              clear qX
              replace hcut := Lib.hid hcut
              replace hC := Lib.hid hC
              go_wp2_with fail
              refine (D1.out _).mono ?_
              rintro e w' ⟨rfl, rfl⟩
              have R1 := HR1.out.below (by have ⟨s, hI, _⟩ := S3.out; rw [hp.out]; exact hI.bel)
              obtain ⟨b1, o1, rfl, g1⟩ := R1.at_ (k := n - j - 1) (by simp [hn.out]; omega)
              simp only [List.getElem_map] at g1
              have gc : Hid (cuts[n - j - 1]'(by have := hn.out; omega) = c) := Lib.hid (by have := hcut.out; rw [List.getElem?_eq_getElem (by have := hn.out; omega)] at this; injection this)
              rw [gc.out] at g1
              clear R1
              go_wp2_with fail
              refine (hC.out _).mono ?_
              rintro e w' ⟨rfl, rfl⟩
              go_wp2_with fail
              all_goals
                refine (any_put h0 S3.out hp.out (f := f) RX.out hf (by omega)).mono ?_
                rintro e w2 ⟨rfl, S4⟩
                replace S4 := Lib.hid S4
                go_wp2_with fail
                go_roundw
                case rel => exact ⟨k + 1, by omega, by go_num, any_more S4.out (fun _ => trivial)⟩
                case measure => simp [intOf]; omega
        · go_wp2_with fail
          go_roundw
          case rel => exact ⟨r + 1, by omega, by go_num, any_more S3.out (fun _ => .inr (by omega))⟩
          case measure => simp [intOf]; omega
    · have hdn : decide ((0 : Int) < (n : Int) + 1) = true := decide_eq_true (by omega)
      go_wp2_with fail
      refine (any_last h0 (any_more S2.out (fun _ => by omega)) hp.out HR.out).mono ?_
      rintro e w2 ⟨rfl, s, I5, P5, hrd, hen, hhi, hall⟩
      obtain ⟨f1, f2, f3, f4⟩ := part_all P5 (by omega) hall hen
      have f5 := f3 ((D.length : Int) + 1) (by omega)
      rw [hrd, show min ((D.length : Int) + 1).toNat (D.length - 0) = D.length from by omega] at f5
      have f6 := f4 D.length (by omega)
      rw [hrd, List.drop_zero, List.take_length] at f6
      have f7 := part_ended (part_read P5 ((D.length : Int) + 1)) (by simp only [iread]; rw [f5, hrd]; omega) hall hen
      clear S2
      replace hall := Lib.hid hall
      replace hen := Lib.hid hen
      replace hrd := Lib.hid hrd
      replace hhi := Lib.hid hhi
      replace f1 := Lib.hid f1
      replace f2 := Lib.hid f2
      replace f3 := Lib.hid f3
      replace f4 := Lib.hid f4
      replace f5 := Lib.hid f5
      replace f6 := Lib.hid f6
      replace f7 := Lib.hid f7
      go_wp2_with fail
      refine (whole_at I5).mono ?_
      rintro e w3 ⟨rfl, q⟩
      rw [f2.out]
      replace I5 := I5.stillS q
      clear q
      go_wp2_with fail
      refine (read_at ((D.length : Int) + 1) I5 I5.lt).mono ?_
      rintro e w8 ⟨A8, c8, rfl, ho8, I8, hF8⟩
      rw [f5.out] at ho8 ⊢
      rw [f6.out] at ho8
      have R8 := Rd.of_own ho8
      clear ho8
      have RD := HR.out.below (by rw [hp.out]; exact I8.bel)
      go_wp2_with fail
      refine (still_of (same_any D D A8 _ _ _ _ R8 RD (by omega) (by omega))).mono ?_
      rintro e w9 ⟨rfl, q⟩
      rw [show decide (D = D) = true from by simp]
      replace I8 := I8.still q
      clear q R8 RD I5
      go_wp2_with fail
      refine (ended_at I8).mono ?_
      rintro e w10 ⟨rfl, q⟩
      rw [f7.out]
      replace I8 := I8.still q
      clear q
      go_wp2_with fail
      refine (high_at I8).mono ?_
      rintro e w11 ⟨rfl, q⟩
      rw [show (iread s ((D.length : Int) + 1)).hi = D.length from hhi.out]
      replace I8 := I8.still q
      clear q
      go_wp2_with fail
      refine (awake_any _).mono ?_
      rintro e wf ⟨rfl, hbf⟩
      go_wp2_with fail
      go_ret
      exact ⟨rfl, by rw [hp.out]; exact (I8.below hbf).bel⟩

set_option maxHeartbeats 2000000 in
theorem iany_out (n m : Nat) (A A1 : Option Addr) (cap cap1 : Nat) (turn : Int) (back : Bool) (w : World) (hn : n ≤ 9223372036854775807) (hm : m ≤ 9223372036854775807) (h : 200 < n ∨ 12 < m) :
    Calls Try.prog 5 #[.slice A n cap, .slice A1 m cap1, .int .i64 turn, .bool back] w fun e w' => e = .returned (.bool true) ∧ Below w.heap.size w w' := by
  by_cases h1 : 200 < n
  · go_enter Try.func5, Try.ntmps5
    go_wp2_with fail
    refine (awake_any _).mono ?_
    rintro e wf ⟨rfl, hbf⟩
    go_wp2_with fail
    go_ret
    exact ⟨rfl, hbf⟩
  · have h2 : 12 < m := by omega
    clear h
    go_enter Try.func5, Try.ntmps5
    go_wp2_with fail
    refine (awake_any _).mono ?_
    rintro e wf ⟨rfl, hbf⟩
    go_wp2_with fail
    go_ret
    exact ⟨rfl, hbf⟩
theorem iany_any (D : List UInt8) (A A1 : Option Addr) (cap cap1 : Nat) (cuts : List Int) (turn : Int) (back : Bool) (w : World) (hr : Rd w A (bv D)) (hr1 : Rd w A1 (cuts.map (Value.int .i64))) (hc : D.length ≤ cap) (hcm : cap ≤ 9223372036854775807) (hc1 : cuts.length ≤ 9223372036854775807) :
    Calls Try.prog 5 #[.slice A D.length cap, .slice A1 cuts.length cap1, .int .i64 turn, .bool back] w fun e w' => e = .returned (.bool true) ∧ Below w.heap.size w w' := by
  by_cases h : 200 < D.length ∨ 12 < cuts.length
  · exact iany_out D.length cuts.length A A1 cap cap1 turn back w (by omega) (by omega) h
  · exact iany_in D A A1 cap cap1 cuts turn back w hr hr1 hc hcm (by omega) (by omega)
end Go.Proofs.Ytlaomllgjiochaa
