/- outgo: Next: what it answers, and what it leaves. -/
import Derived.Test.YtljpboikjhckiaaOutC
import Derived.Test.YtljpboikjhckiaaOutD
import Derived.Test.YtljpboikjhckiaaClone
namespace Go.Proofs.Ytljpboikjhckiaa
open Go.RowKit

def marks (S : List UInt8) (a : Nat) : Nat → List UInt8
  | 0 => S
  | k + 1 => (marks S a k).set (a + k) 1
@[simp] theorem marks_length (S : List UInt8) (a k : Nat) : (marks S a k).length = S.length := by
  induction k with
  | zero => rfl
  | succ k ih => simp [marks, ih]
theorem marks_get (S : List UInt8) (a k i : Nat) (hi : i < S.length) : (marks S a k)[i]? = if a ≤ i ∧ i < a + k then some 1 else S[i]? := by
  induction k with
  | zero => simp only [marks]; rw [if_neg (by omega)]
  | succ k ih =>
    simp only [marks, List.getElem?_set, marks_length]
    by_cases h : a + k = i
    · rw [if_pos h, if_pos (by omega), if_pos (by omega)]
    · rw [if_neg h, ih]
      by_cases h2 : a ≤ i ∧ i < a + k
      · rw [if_pos h2, if_pos (by omega)]
      · rw [if_neg h2, if_neg (by omega)]

theorem onext_shape (S : List UInt8) (n : Nat) (room allow : Int) (hr : 0 ≤ room) (hS : S.length = n + 1) : onext S n room allow = (0, 0, false) ∨ ∃ a m : Nat, onext S n room allow = ((a : Int), (m : Int), true) ∧ a + m ≤ n := by
  unfold onext
  have h1 := runOf_le (S.drop (ahead (S.take n) 2)) 2 (n - ahead (S.take n) 2)
  have h2 := runOf_le (S.drop (ahead (S.take n) 0)) 0 (n - ahead (S.take n) 0)
  simp only
  generalize runOf (S.drop (ahead (S.take n) 2)) 2 (n - ahead (S.take n) 2) = R1 at *
  generalize runOf (S.drop (ahead (S.take n) 0)) 0 (n - ahead (S.take n) 0) = R2 at *
  generalize ahead (S.take n) 2 = L at *
  generalize ahead (S.take n) 0 = F at *
  by_cases c1 : L < n
  · simp only [c1, if_true]
    exact .inr ⟨L, (min (R1 : Int) room).toNat, by rw [Int.toNat_of_nonneg (by omega)], by omega⟩
  · simp only [c1, if_false]
    by_cases c2 : S[n]? = some 2
    · simp only [c2, if_true]
      exact .inr ⟨n, 0, rfl, by omega⟩
    · simp only [c2, if_false]
      by_cases c3 : F < n
      · simp only [c3, if_true]
        by_cases c4 : (F : Int) < allow
        · simp only [c4, if_true]
          exact .inr ⟨F, (min (min (R2 : Int) room) (allow - F)).toNat, by rw [Int.toNat_of_nonneg (by omega)], by omega⟩
        · simp only [c4, if_false]; exact .inl trivial
      · simp only [c3, if_false]
        by_cases c5 : S[n]? = some 0
        · simp only [c5, if_true]; exact .inr ⟨n, 0, rfl, by omega⟩
        · simp only [c5, if_false]; exact .inl trivial

/-- Is the end told with it? -/
def oend (S : List UInt8) (n a m : Nat) : Bool := decide (a + m = n) && (decide (S[n]? = some 0) || decide (S[n]? = some 2))
/-- What Next answers: where, which bytes, the end, whether there is any; and the states then. -/
def oNext (D S : List UInt8) (n : Nat) (room allow : Int) : Int × List UInt8 × Bool × Bool × List UInt8 :=
  let r := onext S n (max room 0) allow
  let a := r.1.toNat
  let m := r.2.1.toNat
  if r.2.2 = false ∨ (m = 0 ∧ oend S n a m = false) then (0, [], false, false, S)
  else (a, (D.drop a).take m, oend S n a m, true, if oend S n a m then (marks S a m).set n 1 else marks S a m)

def NextPostB (p g n : Nat) (AD : Option Addr) (cD : Nat) (D : List UInt8) (w : World) (r : Int × List UInt8 × Bool × Bool × List UInt8) (e : Ending) (w' : World) : Prop :=
  ∃ A c, e = .returned (.tuple #[.int .i64 r.1, .slice A r.2.1.length c, .bool r.2.2.1, .bool r.2.2.2.1]) ∧ w'.ownsRow w.heap.size 5 1 (.slice A r.2.1.length c) r.2.1.length (bv r.2.1) ∧ IsOut w' p g n AD cD D r.2.2.2.2 ∧ Fr (· = g) w w'

section
variable {w w' : World} {p g n : Nat} {AD : Option Addr} {cD : Nat} {D S : List UInt8}
set_option maxHeartbeats 4000000 in
theorem oNext_none (h : IsOut w p g n AD cD D S) (room allow : Int) (hr0 : -9223372036854775808 ≤ room) (hr1 : room ≤ 9223372036854775807) (ha0 : -9223372036854775808 ≤ allow) (ha1 : allow ≤ 9223372036854775807) (hn : onext S n (max room 0) allow = (0, 0, false)) :
    Calls Try.prog 13 #[.pointer (some ⟨p, 0, none⟩), .int .i64 room, .int .i64 allow] w (NextPostB p g n AD cD D w (0, [], false, false, S)) := by
  have c0 := wrote_cell h.cell 0 _ rfl
  have hs := h.small
  obtain ⟨R, hR⟩ : ∃ R, R = max room 0 := ⟨_, rfl⟩
  have HM := fun ts t w => run_max2 (P := Try.prog) room 0 R hR ts t w
  have CN := Lib.hid (onext_any h R allow (by omega) (by omega) ha0 ha1)
  rw [← hR] at hn
  rw [hn] at CN
  replace hn := Lib.hid hn
  replace hR := Lib.hid hR
  replace h := Lib.hid h
  go_enter Try.func13, Try.ntmps13
  go_wp2_with fail
  refine CN.out.mono ?_
  rintro e w' ⟨rfl, k, rfl⟩
  go_wp2_with fail
  exact bodyPost_ret (v := .tuple #[.int .i64 0, .slice none 0 0, .bool false, .bool false]) (by simp [results, Try.results13, go_sem]) rfl ⟨none, 0, rfl, World.ownsRow_nil _ _ _ _, h.out.drewN k, (Fr.refl _ w).drewN k⟩

theorem oend_val {S : List UInt8} {n a m : Nat} {v : UInt8} (hv : S[n]? = some v) : oend S n a m = (decide (a + m = n) && (decide (v = 0) || decide (v = 2))) := by
  unfold oend; rw [hv]; simp
set_option maxHeartbeats 8000000 in
theorem oNext_skip (h : IsOut w p g n AD cD D S) (room allow : Int) (a : Nat) (hr0 : -9223372036854775808 ≤ room) (hr1 : room ≤ 9223372036854775807) (ha0 : -9223372036854775808 ≤ allow) (ha1 : allow ≤ 9223372036854775807) (hn : onext S n (max room 0) allow = ((a : Int), (0 : Int), true)) (han : a ≤ n) (he : oend S n a 0 = false) :
    Calls Try.prog 13 #[.pointer (some ⟨p, 0, none⟩), .int .i64 room, .int .i64 allow] w (NextPostB p g n AD cD D w (0, [], false, false, S)) := by
  have c0 := wrote_cell h.cell 0 _ rfl
  have c1 := wrote_cell h.cell 1 _ rfl
  have hs := h.small
  have hl := h.lS
  obtain ⟨b1, o1, e1, g1⟩ := h.rdS.at_ (k := n) (by simp; omega)
  injection e1 with e1
  injection e1 with e1 e2
  subst e1 e2
  simp only [bv, List.getElem_map, Nat.zero_add] at g1
  obtain ⟨v, hv⟩ : ∃ v, S[n]'(by omega) = v := ⟨_, rfl⟩
  have hv' : S[n]? = some v := by rw [List.getElem?_eq_getElem (by omega), hv]
  rw [hv] at g1
  rw [oend_val hv', Nat.add_zero] at he
  obtain ⟨R, hR⟩ : ∃ R, R = max room 0 := ⟨_, rfl⟩
  have HM := fun ts t w => run_max2 (P := Try.prog) room 0 R hR ts t w
  have CN := Lib.hid (onext_any h R allow (by omega) (by omega) ha0 ha1)
  rw [← hR] at hn
  rw [hn] at CN
  replace hn := Lib.hid hn
  replace hR := Lib.hid hR
  replace h := Lib.hid h
  replace hl := Lib.hid hl
  clear hv hv'
  by_cases hna : a = n
  · subst hna
    have hv0 : v ≠ 0 := fun e => by subst e; simp at he
    have hv2 : v ≠ 2 := fun e => by subst e; simp at he
    have hne0 : ((v.toNat : Int) == 0) = false := u8_ne hv0
    have hne2 : ((v.toNat : Int) == 2) = false := u8_ne hv2
    have haa : ((a : Int) == (a : Int)) = true := beq_self_eq_true _
    clear he hv0 hv2
    go_enter Try.func13, Try.ntmps13
    go_wp2_with fail
    refine CN.out.mono ?_
    rintro e w' ⟨rfl, k, rfl⟩
    go_wp2_with fail
    exact bodyPost_ret (v := .tuple #[.int .i64 0, .slice none 0 0, .bool false, .bool false]) (by simp [results, Try.results13, go_sem]) rfl ⟨none, 0, rfl, World.ownsRow_nil _ _ _ _, h.out.drewN k, (Fr.refl _ w).drewN k⟩
  · have hna2 : ((a : Int) == (n : Int)) = false := beq_eq_false_iff_ne.2 (by omega)
    clear he
    replace hna := Lib.hid hna
    go_enter Try.func13, Try.ntmps13
    go_wp2_with fail
    refine CN.out.mono ?_
    rintro e w' ⟨rfl, k, rfl⟩
    go_wp2_with fail
    exact bodyPost_ret (v := .tuple #[.int .i64 0, .slice none 0 0, .bool false, .bool false]) (by simp [results, Try.results13, go_sem]) rfl ⟨none, 0, rfl, World.ownsRow_nil _ _ _ _, h.out.drewN k, (Fr.refl _ w).drewN k⟩

set_option maxRecDepth 100000 in
set_option maxHeartbeats 16000000 in
theorem oNext_some (h : IsOut w p g n AD cD D S) (room allow : Int) (a m : Nat) (hr0 : -9223372036854775808 ≤ room) (hr1 : room ≤ 9223372036854775807) (ha0 : -9223372036854775808 ≤ allow) (ha1 : allow ≤ 9223372036854775807) (hn : onext S n (max room 0) allow = ((a : Int), (m : Int), true)) (han : a + m ≤ n) (eb : Bool) (he : oend S n a m = eb) (hme : ¬ (m = 0 ∧ eb = false)) :
    Calls Try.prog 13 #[.pointer (some ⟨p, 0, none⟩), .int .i64 room, .int .i64 allow] w (NextPostB p g n AD cD D w (a, (D.drop a).take m, eb, true, if eb then (marks S a m).set n 1 else marks S a m)) := by
  have c0 := wrote_cell h.cell 0 _ rfl
  have c1 := wrote_cell h.cell 1 _ rfl
  have hs := h.small
  have hl := h.lS
  have hcap := h.cap
  have hlD := h.lD
  obtain ⟨b1, o1, e1, g1⟩ := h.rdS.at_ (k := n) (by simp; omega)
  injection e1 with e1
  injection e1 with e1 e2
  subst e1 e2
  simp only [bv, List.getElem_map, Nat.zero_add] at g1
  obtain ⟨v, hv⟩ : ∃ v, S[n]'(by omega) = v := ⟨_, rfl⟩
  have hv' : S[n]? = some v := by rw [List.getElem?_eq_getElem (by omega), hv]
  rw [hv] at g1
  rw [oend_val hv'] at he
  obtain ⟨R, hR⟩ : ∃ R, R = max room 0 := ⟨_, rfl⟩
  have HM := fun ts t w => run_max2 (P := Try.prog) room 0 R hR ts t w
  have CN := Lib.hid (onext_any h R allow (by omega) (by omega) ha0 ha1)
  rw [← hR] at hn
  rw [hn] at CN
  obtain ⟨X, K, qX⟩ := cut_lhI (P := Try.prog) Try.underlying22 infoB AD n cD a (a + m) (a : Int) ((a : Int) + m) rfl (by omega) (by omega) (by omega)
  rw [Nat.add_sub_cancel_left] at K
  have hXl : ((D.drop a).take m).length = m := by simp; omega
  replace qX := Lib.hid qX
  replace hn := Lib.hid hn
  replace hR := Lib.hid hR
  replace hl := Lib.hid hl
  replace hXl := Lib.hid hXl
  replace hlD := Lib.hid hlD
  have HP := Lib.hid h
  clear hv hv' h
  cases eb with
  | true =>
    have hna : a + m = n := by
      rw [Bool.and_eq_true] at he; exact of_decide_eq_true he.1
    have hv02 : v = 0 ∨ v = 2 := by
      rw [Bool.and_eq_true, Bool.or_eq_true] at he
      rcases he.2 with h1 | h1
      · exact .inl (of_decide_eq_true h1)
      · exact .inr (of_decide_eq_true h1)
    have haa : (((a : Int) + m) == (n : Int)) = true := beq_iff_eq.2 (by omega)
    replace hna := Lib.hid hna
    clear he hme
    obtain ⟨mz, hmz⟩ : ∃ mz, ((m : Int) == 0) = mz := ⟨_, rfl⟩
    rcases hv02 with rfl | rfl <;> cases mz
    · skip
      go_enter Try.func13, Try.ntmps13
      go_wp2_with fail
      refine CN.out.mono ?_
      rintro e w' ⟨rfl, k, rfl⟩
      go_wp2_with fail
      go_loopw [71] (fun i wr => ∃ k : Nat, k ≤ m ∧ i = .int .i64 k ∧ IsOut wr p g n AD cD D (marks S a k) ∧ Fr (· = g) w wr) (fun i _ => m - (intOf i).toNat)
      case atStart => exact ⟨0, by omega, rfl, HP.out.drewN _, (Fr.refl _ _).drewN _⟩
      case round =>
        clear c0 c1 g1
        obtain ⟨k, hk, rfl, hJ, hG⟩ := hrel
        have c0 := wrote_cell hJ.cell 0 _ rfl
        have c1 := wrote_cell hJ.cell 1 _ rfl
        by_cases hkm : k < m
        · have q1 := hJ.row.frozenAt (a + k)
          have q2 := hJ.row.cellAt (a + k) (by omega)
          rw [bv_get (k := a + k) (by have := hl.out; simp; omega)] at q2
          have hJ2 := Lib.hid (hJ.set (a + k) 1)
          have hG2 := Lib.hid (hG.setCell (p := ⟨g, a + k, none⟩) (fun _ => rfl) (.int .u8 1))
          replace hJ := Lib.hid hJ
          replace hG := Lib.hid hG
          go_wp2_with fail
          go_roundw
          case rel => exact ⟨k + 1, by omega, by go_num, hJ2.out, hG2.out⟩
          case measure => simp [intOf] <;> omega
        · have hkm2 : k = m := by omega
          subst hkm2
          have q1 := hJ.row.frozenAt n
          have q2 := hJ.row.cellAt n (by omega)
          rw [bv_get (k := n) (by have := hl.out; simp; omega)] at q2
          have hJ2 := Lib.hid (hJ.set n 1)
          have hG2 := Lib.hid (hG.setCell (p := ⟨g, n, none⟩) (fun _ => rfl) (.int .u8 1))
          have hpg := hJ.pg; have hnl := Lib.hid hJ.nl
          have RX := Lib.hid (qX.out.bytes hJ2.out.rd (by have := hlD.out; omega) (by have := hlD.out; omega))
          rw [Nat.add_sub_cancel_left] at RX
          replace hJ := Lib.hid hJ
          replace hG := Lib.hid hG
          go_wp2_with fail
          refine (clone_to ((D.drop a).take k) k X (cD - a) _ hXl.out RX.out (fun hx => by rw [hnl.out (qX.out.nl hx), Nat.zero_sub]) (by omega)).mono ?_
          rintro e w2 ⟨A2, c2, rfl, ho2, hb2⟩
          go_wp2_with fail
          exact bodyPost_ret (v := .tuple #[.int .i64 a, .slice A2 k c2, .bool true, .bool true]) (by simp [results, Try.results13, go_sem]) rfl ⟨A2, c2, by simp only [hXl.out], by simp only [hXl.out]; exact own_base ho2 (fun j hj => by have := (ho2.lt j hj).1; have := hG2.out.size; simp at *; omega), hJ2.out.fr (Fr.of_below hb2 NoS) (fun x => x) (fun x => x) (fun _ _ x => x), hG2.out.trans (Fr.of_below hb2 _)⟩
    · skip
      go_enter Try.func13, Try.ntmps13
      go_wp2_with fail
      refine CN.out.mono ?_
      rintro e w' ⟨rfl, k, rfl⟩
      go_wp2_with fail
      go_loopw [71] (fun i wr => ∃ k : Nat, k ≤ m ∧ i = .int .i64 k ∧ IsOut wr p g n AD cD D (marks S a k) ∧ Fr (· = g) w wr) (fun i _ => m - (intOf i).toNat)
      case atStart => exact ⟨0, by omega, rfl, HP.out.drewN _, (Fr.refl _ _).drewN _⟩
      case round =>
        clear c0 c1 g1
        obtain ⟨k, hk, rfl, hJ, hG⟩ := hrel
        have c0 := wrote_cell hJ.cell 0 _ rfl
        have c1 := wrote_cell hJ.cell 1 _ rfl
        by_cases hkm : k < m
        · have q1 := hJ.row.frozenAt (a + k)
          have q2 := hJ.row.cellAt (a + k) (by omega)
          rw [bv_get (k := a + k) (by have := hl.out; simp; omega)] at q2
          have hJ2 := Lib.hid (hJ.set (a + k) 1)
          have hG2 := Lib.hid (hG.setCell (p := ⟨g, a + k, none⟩) (fun _ => rfl) (.int .u8 1))
          replace hJ := Lib.hid hJ
          replace hG := Lib.hid hG
          go_wp2_with fail
          go_roundw
          case rel => exact ⟨k + 1, by omega, by go_num, hJ2.out, hG2.out⟩
          case measure => simp [intOf] <;> omega
        · have hkm2 : k = m := by omega
          subst hkm2
          have q1 := hJ.row.frozenAt n
          have q2 := hJ.row.cellAt n (by omega)
          rw [bv_get (k := n) (by have := hl.out; simp; omega)] at q2
          have hJ2 := Lib.hid (hJ.set n 1)
          have hG2 := Lib.hid (hG.setCell (p := ⟨g, n, none⟩) (fun _ => rfl) (.int .u8 1))
          have hpg := hJ.pg; have hnl := Lib.hid hJ.nl
          have RX := Lib.hid (qX.out.bytes hJ2.out.rd (by have := hlD.out; omega) (by have := hlD.out; omega))
          rw [Nat.add_sub_cancel_left] at RX
          replace hJ := Lib.hid hJ
          replace hG := Lib.hid hG
          go_wp2_with fail
          refine (clone_to ((D.drop a).take k) k X (cD - a) _ hXl.out RX.out (fun hx => by rw [hnl.out (qX.out.nl hx), Nat.zero_sub]) (by omega)).mono ?_
          rintro e w2 ⟨A2, c2, rfl, ho2, hb2⟩
          go_wp2_with fail
          exact bodyPost_ret (v := .tuple #[.int .i64 a, .slice A2 k c2, .bool true, .bool true]) (by simp [results, Try.results13, go_sem]) rfl ⟨A2, c2, by simp only [hXl.out], by simp only [hXl.out]; exact own_base ho2 (fun j hj => by have := (ho2.lt j hj).1; have := hG2.out.size; simp at *; omega), hJ2.out.fr (Fr.of_below hb2 NoS) (fun x => x) (fun x => x) (fun _ _ x => x), hG2.out.trans (Fr.of_below hb2 _)⟩
    · skip
      go_enter Try.func13, Try.ntmps13
      go_wp2_with fail
      refine CN.out.mono ?_
      rintro e w' ⟨rfl, k, rfl⟩
      go_wp2_with fail
      go_loopw [71] (fun i wr => ∃ k : Nat, k ≤ m ∧ i = .int .i64 k ∧ IsOut wr p g n AD cD D (marks S a k) ∧ Fr (· = g) w wr) (fun i _ => m - (intOf i).toNat)
      case atStart => exact ⟨0, by omega, rfl, HP.out.drewN _, (Fr.refl _ _).drewN _⟩
      case round =>
        clear c0 c1 g1
        obtain ⟨k, hk, rfl, hJ, hG⟩ := hrel
        have c0 := wrote_cell hJ.cell 0 _ rfl
        have c1 := wrote_cell hJ.cell 1 _ rfl
        by_cases hkm : k < m
        · have q1 := hJ.row.frozenAt (a + k)
          have q2 := hJ.row.cellAt (a + k) (by omega)
          rw [bv_get (k := a + k) (by have := hl.out; simp; omega)] at q2
          have hJ2 := Lib.hid (hJ.set (a + k) 1)
          have hG2 := Lib.hid (hG.setCell (p := ⟨g, a + k, none⟩) (fun _ => rfl) (.int .u8 1))
          replace hJ := Lib.hid hJ
          replace hG := Lib.hid hG
          go_wp2_with fail
          go_roundw
          case rel => exact ⟨k + 1, by omega, by go_num, hJ2.out, hG2.out⟩
          case measure => simp [intOf] <;> omega
        · have hkm2 : k = m := by omega
          subst hkm2
          have q1 := hJ.row.frozenAt n
          have q2 := hJ.row.cellAt n (by omega)
          rw [bv_get (k := n) (by have := hl.out; simp; omega)] at q2
          have hJ2 := Lib.hid (hJ.set n 1)
          have hG2 := Lib.hid (hG.setCell (p := ⟨g, n, none⟩) (fun _ => rfl) (.int .u8 1))
          have hpg := hJ.pg; have hnl := Lib.hid hJ.nl
          have RX := Lib.hid (qX.out.bytes hJ2.out.rd (by have := hlD.out; omega) (by have := hlD.out; omega))
          rw [Nat.add_sub_cancel_left] at RX
          replace hJ := Lib.hid hJ
          replace hG := Lib.hid hG
          go_wp2_with fail
          refine (clone_to ((D.drop a).take k) k X (cD - a) _ hXl.out RX.out (fun hx => by rw [hnl.out (qX.out.nl hx), Nat.zero_sub]) (by omega)).mono ?_
          rintro e w2 ⟨A2, c2, rfl, ho2, hb2⟩
          go_wp2_with fail
          exact bodyPost_ret (v := .tuple #[.int .i64 a, .slice A2 k c2, .bool true, .bool true]) (by simp [results, Try.results13, go_sem]) rfl ⟨A2, c2, by simp only [hXl.out], by simp only [hXl.out]; exact own_base ho2 (fun j hj => by have := (ho2.lt j hj).1; have := hG2.out.size; simp at *; omega), hJ2.out.fr (Fr.of_below hb2 NoS) (fun x => x) (fun x => x) (fun _ _ x => x), hG2.out.trans (Fr.of_below hb2 _)⟩
    · skip
      go_enter Try.func13, Try.ntmps13
      go_wp2_with fail
      refine CN.out.mono ?_
      rintro e w' ⟨rfl, k, rfl⟩
      go_wp2_with fail
      go_loopw [71] (fun i wr => ∃ k : Nat, k ≤ m ∧ i = .int .i64 k ∧ IsOut wr p g n AD cD D (marks S a k) ∧ Fr (· = g) w wr) (fun i _ => m - (intOf i).toNat)
      case atStart => exact ⟨0, by omega, rfl, HP.out.drewN _, (Fr.refl _ _).drewN _⟩
      case round =>
        clear c0 c1 g1
        obtain ⟨k, hk, rfl, hJ, hG⟩ := hrel
        have c0 := wrote_cell hJ.cell 0 _ rfl
        have c1 := wrote_cell hJ.cell 1 _ rfl
        by_cases hkm : k < m
        · have q1 := hJ.row.frozenAt (a + k)
          have q2 := hJ.row.cellAt (a + k) (by omega)
          rw [bv_get (k := a + k) (by have := hl.out; simp; omega)] at q2
          have hJ2 := Lib.hid (hJ.set (a + k) 1)
          have hG2 := Lib.hid (hG.setCell (p := ⟨g, a + k, none⟩) (fun _ => rfl) (.int .u8 1))
          replace hJ := Lib.hid hJ
          replace hG := Lib.hid hG
          go_wp2_with fail
          go_roundw
          case rel => exact ⟨k + 1, by omega, by go_num, hJ2.out, hG2.out⟩
          case measure => simp [intOf] <;> omega
        · have hkm2 : k = m := by omega
          subst hkm2
          have q1 := hJ.row.frozenAt n
          have q2 := hJ.row.cellAt n (by omega)
          rw [bv_get (k := n) (by have := hl.out; simp; omega)] at q2
          have hJ2 := Lib.hid (hJ.set n 1)
          have hG2 := Lib.hid (hG.setCell (p := ⟨g, n, none⟩) (fun _ => rfl) (.int .u8 1))
          have hpg := hJ.pg; have hnl := Lib.hid hJ.nl
          have RX := Lib.hid (qX.out.bytes hJ2.out.rd (by have := hlD.out; omega) (by have := hlD.out; omega))
          rw [Nat.add_sub_cancel_left] at RX
          replace hJ := Lib.hid hJ
          replace hG := Lib.hid hG
          go_wp2_with fail
          refine (clone_to ((D.drop a).take k) k X (cD - a) _ hXl.out RX.out (fun hx => by rw [hnl.out (qX.out.nl hx), Nat.zero_sub]) (by omega)).mono ?_
          rintro e w2 ⟨A2, c2, rfl, ho2, hb2⟩
          go_wp2_with fail
          exact bodyPost_ret (v := .tuple #[.int .i64 a, .slice A2 k c2, .bool true, .bool true]) (by simp [results, Try.results13, go_sem]) rfl ⟨A2, c2, by simp only [hXl.out], by simp only [hXl.out]; exact own_base ho2 (fun j hj => by have := (ho2.lt j hj).1; have := hG2.out.size; simp at *; omega), hJ2.out.fr (Fr.of_below hb2 NoS) (fun x => x) (fun x => x) (fun _ _ x => x), hG2.out.trans (Fr.of_below hb2 _)⟩
  | false =>
    have hm0 : 0 < m := by
      rcases Nat.eq_zero_or_pos m with h1 | h1
      · exact absurd ⟨h1, rfl⟩ hme
      · exact h1
    have hmz : ((m : Int) == 0) = false := beq_eq_false_iff_ne.2 (by omega)
    by_cases hna : a + m = n
    · have hv0 : v ≠ 0 := fun e => by subst e; simp at he; exact he hna
      have hv2 : v ≠ 2 := fun e => by subst e; simp at he; exact he hna
      have hne0 : ((v.toNat : Int) == 0) = false := u8_ne hv0
      have hne2 : ((v.toNat : Int) == 2) = false := u8_ne hv2
      have haa : (((a : Int) + m) == (n : Int)) = true := beq_iff_eq.2 (by omega)
      clear he hv0 hv2 hme
      replace hna := Lib.hid hna
      go_enter Try.func13, Try.ntmps13
      go_wp2_with fail
      refine CN.out.mono ?_
      rintro e w' ⟨rfl, k, rfl⟩
      go_wp2_with fail
      go_loopw [71] (fun i wr => ∃ k : Nat, k ≤ m ∧ i = .int .i64 k ∧ IsOut wr p g n AD cD D (marks S a k) ∧ Fr (· = g) w wr) (fun i _ => m - (intOf i).toNat)
      case atStart => exact ⟨0, by omega, rfl, HP.out.drewN _, (Fr.refl _ _).drewN _⟩
      case round =>
        clear c0 c1 g1
        obtain ⟨k, hk, rfl, hJ, hG⟩ := hrel
        have c0 := wrote_cell hJ.cell 0 _ rfl
        have c1 := wrote_cell hJ.cell 1 _ rfl
        by_cases hkm : k < m
        · have q1 := hJ.row.frozenAt (a + k)
          have q2 := hJ.row.cellAt (a + k) (by omega)
          rw [bv_get (k := a + k) (by have := hl.out; simp; omega)] at q2
          have hJ2 := Lib.hid (hJ.set (a + k) 1)
          have hG2 := Lib.hid (hG.setCell (p := ⟨g, a + k, none⟩) (fun _ => rfl) (.int .u8 1))
          replace hJ := Lib.hid hJ
          replace hG := Lib.hid hG
          go_wp2_with fail
          go_roundw
          case rel => exact ⟨k + 1, by omega, by go_num, hJ2.out, hG2.out⟩
          case measure => simp [intOf] <;> omega
        · have hkm2 : k = m := by omega
          subst hkm2
          have hJ2 := Lib.hid hJ
          have hG2 := Lib.hid hG
          have hpg := hJ.pg; have hnl := Lib.hid hJ.nl
          have RX := Lib.hid (qX.out.bytes hJ2.out.rd (by have := hlD.out; omega) (by have := hlD.out; omega))
          rw [Nat.add_sub_cancel_left] at RX
          replace hJ := Lib.hid hJ
          replace hG := Lib.hid hG
          go_wp2_with fail
          refine (clone_to ((D.drop a).take k) k X (cD - a) _ hXl.out RX.out (fun hx => by rw [hnl.out (qX.out.nl hx), Nat.zero_sub]) (by omega)).mono ?_
          rintro e w2 ⟨A2, c2, rfl, ho2, hb2⟩
          go_wp2_with fail
          exact bodyPost_ret (v := .tuple #[.int .i64 a, .slice A2 k c2, .bool false, .bool true]) (by simp [results, Try.results13, go_sem]) rfl ⟨A2, c2, by simp only [hXl.out], by simp only [hXl.out]; exact own_base ho2 (fun j hj => by have := (ho2.lt j hj).1; have := hG2.out.size; simp at *; omega), hJ2.out.fr (Fr.of_below hb2 NoS) (fun x => x) (fun x => x) (fun _ _ x => x), hG2.out.trans (Fr.of_below hb2 _)⟩
    · have haa : (((a : Int) + m) == (n : Int)) = false := beq_eq_false_iff_ne.2 (by omega)
      clear he hme
      replace hna := Lib.hid hna
      go_enter Try.func13, Try.ntmps13
      go_wp2_with fail
      refine CN.out.mono ?_
      rintro e w' ⟨rfl, k, rfl⟩
      go_wp2_with fail
      go_loopw [71] (fun i wr => ∃ k : Nat, k ≤ m ∧ i = .int .i64 k ∧ IsOut wr p g n AD cD D (marks S a k) ∧ Fr (· = g) w wr) (fun i _ => m - (intOf i).toNat)
      case atStart => exact ⟨0, by omega, rfl, HP.out.drewN _, (Fr.refl _ _).drewN _⟩
      case round =>
        clear c0 c1 g1
        obtain ⟨k, hk, rfl, hJ, hG⟩ := hrel
        have c0 := wrote_cell hJ.cell 0 _ rfl
        have c1 := wrote_cell hJ.cell 1 _ rfl
        by_cases hkm : k < m
        · have q1 := hJ.row.frozenAt (a + k)
          have q2 := hJ.row.cellAt (a + k) (by omega)
          rw [bv_get (k := a + k) (by have := hl.out; simp; omega)] at q2
          have hJ2 := Lib.hid (hJ.set (a + k) 1)
          have hG2 := Lib.hid (hG.setCell (p := ⟨g, a + k, none⟩) (fun _ => rfl) (.int .u8 1))
          replace hJ := Lib.hid hJ
          replace hG := Lib.hid hG
          go_wp2_with fail
          go_roundw
          case rel => exact ⟨k + 1, by omega, by go_num, hJ2.out, hG2.out⟩
          case measure => simp [intOf] <;> omega
        · have hkm2 : k = m := by omega
          subst hkm2
          have hJ2 := Lib.hid hJ
          have hG2 := Lib.hid hG
          have hpg := hJ.pg; have hnl := Lib.hid hJ.nl
          have RX := Lib.hid (qX.out.bytes hJ2.out.rd (by have := hlD.out; omega) (by have := hlD.out; omega))
          rw [Nat.add_sub_cancel_left] at RX
          replace hJ := Lib.hid hJ
          replace hG := Lib.hid hG
          go_wp2_with fail
          refine (clone_to ((D.drop a).take k) k X (cD - a) _ hXl.out RX.out (fun hx => by rw [hnl.out (qX.out.nl hx), Nat.zero_sub]) (by omega)).mono ?_
          rintro e w2 ⟨A2, c2, rfl, ho2, hb2⟩
          go_wp2_with fail
          exact bodyPost_ret (v := .tuple #[.int .i64 a, .slice A2 k c2, .bool false, .bool true]) (by simp [results, Try.results13, go_sem]) rfl ⟨A2, c2, by simp only [hXl.out], by simp only [hXl.out]; exact own_base ho2 (fun j hj => by have := (ho2.lt j hj).1; have := hG2.out.size; simp at *; omega), hJ2.out.fr (Fr.of_below hb2 NoS) (fun x => x) (fun x => x) (fun _ _ x => x), hG2.out.trans (Fr.of_below hb2 _)⟩
theorem oNext_any (h : IsOut w p g n AD cD D S) (room allow : Int) (hr0 : -9223372036854775808 ≤ room) (hr1 : room ≤ 9223372036854775807) (ha0 : -9223372036854775808 ≤ allow) (ha1 : allow ≤ 9223372036854775807) :
    Calls Try.prog 13 #[.pointer (some ⟨p, 0, none⟩), .int .i64 room, .int .i64 allow] w (NextPostB p g n AD cD D w (oNext D S n room allow)) := by
  rcases onext_shape S n (max room 0) allow (by omega) h.lS with hn | ⟨a, m, hn, ham⟩
  · have : oNext D S n room allow = (0, [], false, false, S) := by unfold oNext; rw [hn]; rfl
    rw [this]
    exact oNext_none h room allow hr0 hr1 ha0 ha1 hn
  · by_cases hme : m = 0 ∧ oend S n a m = false
    · have : oNext D S n room allow = (0, [], false, false, S) := by unfold oNext; rw [hn]; simp only [Int.toNat_natCast]; rw [if_pos (.inr hme)]
      rw [this]
      obtain ⟨h1, h2⟩ := hme
      subst h1
      exact oNext_skip h room allow a hr0 hr1 ha0 ha1 hn (by omega) h2
    · have : oNext D S n room allow = ((a : Int), (D.drop a).take m, oend S n a m, true, if oend S n a m then (marks S a m).set n 1 else marks S a m) := by
        unfold oNext; rw [hn]; simp only [Int.toNat_natCast]; rw [if_neg (fun hx => hx.elim (fun h1 => by cases h1) hme)]
      rw [this]
      exact oNext_some h room allow a m hr0 hr1 ha0 ha1 hn ham _ rfl hme
end
end Go.Proofs.Ytljpboikjhckiaa
