/- What the proof of LetterReads stands on, part 2: 14 texts of ours, one behind the other. -/
import Derived.ScopeJumps
import Derived.Deep.OwnRows
import Derived.Laws.OwnMore
import Derived.Test.YtdldipkbknhhoaaDoorMLetterReads0
import Derived.Test.YtdldipkbknhhoaaDoorMLetterReads1
/- The reference's In and Put: contracts at every length and every number of 64 bits. -/
namespace Go.Proofs.YtdldipkbknhhoaaDoor
open Go.RowKit

theorem in_any (n : Int) (m : Nat) (l : List UInt8) (A : Option Addr) (c : Nat) (w : World) (hr : Rd w A (bv l)) (hl : l.length ≤ 70368744177664) (h0 : 0 ≤ n)
    (hm : m = 1 ∨ m = 2 ∨ m = 4 ∨ m = 8) (hnm : n < 2 ^ (8 * m - 2)) :
    Calls Tryd.prog 46 #[.slice A l.length c, .int .u64 n, .int .i64 m] w (RetS 5 w (l.length + m) (bv (l ++ vbytes n m))) := by
  rcases hm with rfl | rfl | rfl | rfl <;> simp only [Nat.reduceMul, Nat.reduceSub, Int.reducePow] at hnm
  · exact in1_any n l A c w hr hl h0 (by omega)
  · exact in2_any n l A c w hr hl h0 (by omega)
  · exact in4_any n l A c w hr hl h0 (by omega)
  · exact in8_any n l A c w hr hl h0 (by omega)

set_option maxHeartbeats 400000 in
theorem in0_any (n : Int) (l : List UInt8) (A : Option Addr) (c : Nat) (w : World) (hr : Rd w A (bv l)) (hl : l.length ≤ 70368744177664) :
    Calls Tryd.prog 46 #[.slice A l.length c, .int .u64 n, .int .i64 0] w (RetS 5 w l.length (bv l)) := by
  go_enter Tryd.func46, Tryd.ntmps46
  go_wp2_with (at_builtin; refine wpList_app _ rfl _ _ 23 rfl w.heap.size 5 (.int .u8 0) 1 infoB Tryd.underlying23 rfl (.slice none 0 0) 0 [] rfl (World.ownsRow_nil _ _ _ _) A l.length c (bv l) rfl (by simp) hr (bv_one l) (by unfold maxLen; omega) (by omega) (Nat.le_refl _) ?_; intro A' c' w1 hown hgrow hat)
  have hbel := (Below.refl w.heap.size w).grown hgrow (Nat.le_refl _) (fun k hk => by simp [Value.ownBlock] at hk)
  simp only [Nat.zero_add, List.nil_append] at hown
  clear hgrow hat
  refine wp_loop_rounds 1 ?_
  rw [rounds_succ]
  go_wp2
  go_ret
  exact ⟨A', c', rfl, hown, hbel⟩

set_option maxHeartbeats 400000 in
theorem refput_any (n : Int) (l : List UInt8) (A : Option Addr) (c : Nat) (w : World) (hr : Rd w A (bv l)) (hl : l.length ≤ 70368744177664) (h0 : 0 ≤ n) (hn : n ≤ 18446744073709551615) :
    Calls Tryd.prog 35 #[.slice A l.length c, .int .u64 n] w (RetS 5 w (l.length + vl n) (bv (l ++ vbytes n (vl n)))) := by
  have HV := Lib.hid (vl_cast n)
  by_cases hm : n ≤ 4611686018427387903
  · have HF := Lib.hid (vl_fit hm)
    go_enter Tryd.func35, Tryd.ntmps35
    go_wp2_with fail
    refine (reflen_any n _ h0 hn).mono ?_
    rintro e w' ⟨rfl, rfl⟩
    rw [← HV.out]
    go_wp2_with fail
    refine (in_any n (vl n) l A c _ hr hl h0 HF.out.1 HF.out.2).mono ?_
    rintro e w' ⟨A', c', rfl, hown, hbel⟩
    go_wp2
    go_ret
    exact ⟨A', c', rfl, hown, hbel⟩
  · have h0' := Lib.hid (vl_zero (n := n) (by omega))
    have HZ := Lib.hid (vlen0 (n := n) (by omega))
    go_enter Tryd.func35, Tryd.ntmps35
    go_wp2_with fail
    refine (reflen_any n _ h0 hn).mono ?_
    rintro e w' ⟨rfl, rfl⟩
    rw [HZ.out]
    go_wp2_with fail
    refine (in0_any n l A c _ hr hl).mono ?_
    rintro e w' ⟨A', c', rfl, hown, hbel⟩
    go_wp2
    go_ret
    rw [h0'.out]
    exact ⟨A', c', rfl, by simpa [vbytes] using hown, hbel⟩
end Go.Proofs.YtdldipkbknhhoaaDoor

/- Plain laws of the numbers' bytes: what is laid is read as it was; cut, it is too short. -/
namespace Go.Proofs.YtdldipkbknhhoaaDoor
open Go.RowKit

theorem vbytes_cons (n : Int) (m : Nat) (hm : 1 ≤ m) : vbytes n m = vbyte n m 0 :: (vbytes n m).drop 1 := by
  obtain ⟨j, rfl⟩ : ∃ j, m = j + 1 := ⟨m - 1, by omega⟩
  simp [vbytes, List.range_succ_eq_map]
theorem vb_first (n : Int) (m : Nat) (h0 : 0 ≤ n) (hm : m = 1 ∨ m = 2 ∨ m = 4 ∨ m = 8) (hnm : n < 2 ^ (8 * m - 2)) :
    vmany (vbyte n m 0) = m ∧ ((vbyte n m 0).toNat : Int) % 64 = n / 2 ^ (8 * (m - 1)) := by
  have e := vbyte_zero n m h0 hm hnm
  have hb : 0 ≤ n / 2 ^ (8 * (m - 1)) ∧ n / 2 ^ (8 * (m - 1)) < 64 := by
    rcases hm with rfl | rfl | rfl | rfl <;> simp only [Nat.reduceMul, Nat.reduceSub, Int.reducePow] at hnm ⊢ <;> omega
  refine ⟨?_, by omega⟩
  unfold vmany
  have : (vbyte n m 0).toNat / 64 = vmark m := by omega
  rw [this]
  rcases hm with rfl | rfl | rfl | rfl <;> rfl
theorem ediv_step (n : Int) (j : Nat) : n / 2 ^ (8 * (j + 1)) * 256 + n / 2 ^ (8 * j) % 256 = n / 2 ^ (8 * j) := by
  have h1 : (2 : Int) ^ (8 * (j + 1)) = 2 ^ (8 * j) * 256 := by
    rw [show 8 * (j + 1) = 8 * j + 8 from by omega, Int.pow_add]; rfl
  have hp : (0 : Int) ≤ 2 ^ (8 * j) := Int.pow_nonneg (by omega)
  rw [h1, ← Int.ediv_ediv_of_nonneg hp]
  omega
theorem beN_vb (n : Int) (m k : Nat) (h0 : 0 ≤ n) (hk : k < m) : beN (n / 2 ^ (8 * (m - 1))) (((vbytes n m).drop 1).take k) = n / 2 ^ (8 * (m - 1 - k)) := by
  induction k with
  | zero => rfl
  | succ k ih =>
    have hlen : k < ((vbytes n m).drop 1).length := by simp [vbytes_length]; omega
    have hg : ((vbytes n m).drop 1)[k] = vbyte n m (k + 1) := by simp [vbytes, Nat.add_comm]
    rw [beN_take_succ _ _ _ hlen, ih (by omega), hg, vbyte_pos n m (k + 1) h0 (by omega)]
    have := ediv_step n (m - 1 - (k + 1))
    rw [show m - 1 - (k + 1) + 1 = m - 1 - k from by omega] at this
    exact this
theorem vget_vbytes (n : Int) (m : Nat) (t : List UInt8) (h0 : 0 ≤ n) (hm : m = 1 ∨ m = 2 ∨ m = 4 ∨ m = 8) (hnm : n < 2 ^ (8 * m - 2)) : vget (vbytes n m ++ t) = (n, (m : Int), 0) := by
  obtain ⟨h1, h2⟩ := vb_first n m h0 hm hnm
  have hlen := vbytes_length n m
  have e := vbytes_cons n m (by omega)
  generalize hr : (vbytes n m).drop 1 = r at e
  have hrl : r.length = m - 1 := by rw [← hr]; simp [hlen]
  rw [e, List.cons_append]
  simp only [vget, h1]
  rw [if_neg (by simp; omega), h2]
  have ht : (r ++ t).take (m - 1) = r.take (m - 1) := by rw [List.take_append_of_le_length (by omega)]
  rw [ht, ← hr, beN_vb n m (m - 1) h0 (by omega)]
  simp
theorem vget_short (n : Int) (m : Nat) (h0 : 0 ≤ n) (hm : m = 1 ∨ m = 2 ∨ m = 4 ∨ m = 8) (hnm : n < 2 ^ (8 * m - 2)) (k : Nat) (hk : k < m) : vget ((vbytes n m).take k) = (0, 0, 3) := by
  obtain ⟨h1, h2⟩ := vb_first n m h0 hm hnm
  have hlen := vbytes_length n m
  rw [vbytes_cons n m (by omega)]
  match k, hk with
  | 0, _ => rfl
  | j + 1, hk =>
    simp only [List.take_succ_cons, vget, h1]
    rw [if_pos (by simp [vbytes_length]; omega)]
/-- How a number is laid. -/
def vput (n : Int) : List UInt8 := vbytes n (vl n)
theorem vput_length (n : Int) : (vput n).length = vl n := vbytes_length _ _
theorem vput_many (n : Int) (h : n ≤ 4611686018427387903) : (vput n).length = 1 ∨ (vput n).length = 2 ∨ (vput n).length = 4 ∨ (vput n).length = 8 := by rw [vput_length]; exact (vl_fit h).1
theorem vget_vput (n : Int) (t : List UInt8) (h0 : 0 ≤ n) (h : n ≤ 4611686018427387903) : vget (vput n ++ t) = (n, ((vput n).length : Int), 0) := by
  rw [vput_length]; exact vget_vbytes n (vl n) t h0 (vl_fit h).1 (vl_fit h).2
theorem vget_vput_short (n : Int) (h0 : 0 ≤ n) (h : n ≤ 4611686018427387903) (k : Nat) (hk : k < (vput n).length) : vget ((vput n).take k) = (0, 0, 3) :=
  vget_short n (vl n) h0 (vl_fit h).1 (vl_fit h).2 k (by rwa [vput_length] at hk)
theorem vput_zero {n : Int} (h : 4611686018427387903 < n) : vput n = [] := by unfold vput; rw [vl_zero h]; rfl
theorem vput_any (n : Int) (l : List UInt8) (A : Option Addr) (c : Nat) (w : World) (hr : Rd w A (bv l)) (hl : l.length ≤ 70368744177664) (h0 : 0 ≤ n) (hn : n ≤ 18446744073709551615) :
    Calls Tryd.prog 37 #[.slice A l.length c, .int .u64 n] w (RetS 5 w (l ++ vput n).length (bv (l ++ vput n))) := by
  rw [List.length_append, vput_length]; exact put_any n l A c w hr hl h0 hn
theorem vlenp_any (n : Int) (w : World) (h0 : 0 ≤ n) (hn : n ≤ 18446744073709551615) :
    Calls Tryd.prog 54 #[.int .u64 n] w fun e w' => e = .returned (.int .i64 (vput n).length) ∧ ∃ k, w' = w.drewN k := by
  rw [vput_length, vl_cast]; exact vlen_any n w h0 hn
theorem vput_fits (n : Int) (h : n ≤ 4611686018427387903) (m : Nat) (hm : (vput n).length ≤ m) : n < 2 ^ (8 * m - 2) := by
  have := (vl_fit h).2
  rw [vput_length] at hm
  have h2 : (2 : Int) ^ (8 * vl n - 2) ≤ 2 ^ (8 * m - 2) := by exact_mod_cast Nat.pow_le_pow_right (n := 2) (by omega) (by omega)
  omega
theorem getv_any (n : Int) (m : Nat) (A : Option Addr) (c : Nat) (w : World) (h0 : 0 ≤ n) (hm : m = 1 ∨ m = 2 ∨ m = 4 ∨ m = 8) (hnm : n < 2 ^ (8 * m - 2)) (hr : Rd w A (bv (vbytes n m))) (hc : m ≤ c) (hcc : c ≤ 9223372036854775807) :
    Calls Tryd.prog 39 #[.slice A m c] w fun e w' => e = .returned (vtup (n, (m : Int), 0)) ∧ w = w' := by
  have e1 := vget_vbytes n m [] h0 hm hnm
  rw [List.append_nil] at e1
  have e2 := vbytes_length n m
  have := get_any (vbytes n m) A c w hr (by omega) (by omega) hcc
  rw [e1, e2] at this
  exact this
end Go.Proofs.YtdldipkbknhhoaaDoor

/- letter: the buckets, a part, what fits. -/
namespace Go.Proofs.YtdldipkbknhhoaaDoor
open Go.RowKit

/-- The variable letter.buckets holds what its initialiser lays. -/
structure BK (w : World) : Prop where
  b0 : w.cell? ⟨0, 0, none⟩ = some (.int .i64 256)
  b1 : w.cell? ⟨0, 1, none⟩ = some (.int .i64 512)
  b2 : w.cell? ⟨0, 2, none⟩ = some (.int .i64 1024)
theorem BK.lt {w : World} (h : BK w) : 0 < w.heap.size := World.block_lt_of_cell? w _ h.b0
theorem BK.fr {w w' : World} {S : Nat → Prop} (h : BK w) (F : Fr S w w') (hS : ¬ S 0) : BK w' :=
  ⟨by rw [F.cell (p := ⟨0, 0, none⟩) h.lt hS]; exact h.b0, by rw [F.cell (p := ⟨0, 1, none⟩) h.lt hS]; exact h.b1, by rw [F.cell (p := ⟨0, 2, none⟩) h.lt hS]; exact h.b2⟩
theorem BK.below {w w' : World} (h : BK w) (b : Below w.heap.size w w') : BK w' := h.fr (Fr.of_below b NoS) (fun x => x)
theorem BK.rd {w : World} (h : BK w) : Rd w (some ⟨0, 0, none⟩) [.int .i64 256, .int .i64 512, .int .i64 1024] := fun _ => ⟨0, 0, rfl, fun k u hu => by
  rcases k with _ | _ | _ | k
  · simp at hu; subst hu; exact h.b0
  · simp at hu; subst hu; exact h.b1
  · simp at hu; subst hu; exact h.b2
  · simp at hu⟩
def bok (n : Int) : Bool := decide (n = 256 ∨ n = 512 ∨ n = 1024)

def bidx (n : Int) : Int := if n = 256 then 0 else if n = 512 then 1 else if n = 1024 then 2 else -1
theorem bok_bidx (n : Int) : decide (0 ≤ bidx n) = bok n := by
  unfold bidx bok
  by_cases h0 : n = 256
  · subst h0; decide
  · by_cases h1 : n = 512
    · subst h1; decide
    · by_cases h2 : n = 1024
      · subst h2; decide
      · simp [h0, h1, h2]
set_option maxRecDepth 100000 in
set_option maxHeartbeats 4000000 in
theorem bindex_any (n : Int) (w : World) (h : BK w) :
    Calls Tryd.prog 38 #[.slice (some ⟨0, 0, none⟩) 3 3, .int .i64 n] w fun e w' => e = .returned (.int .i64 (bidx n)) ∧ w = w' := by
  obtain ⟨b0, b1, b2⟩ := h
  obtain ⟨R, hR⟩ : ∃ R, bidx n = R := ⟨_, rfl⟩
  rw [hR]
  have H0 : Hid (n = 256 → R = 0) := Lib.hid (fun h => by rw [← hR, h]; rfl)
  have H1 : Hid (n = 512 → R = 1) := Lib.hid (fun h => by rw [← hR, h]; rfl)
  have H2 : Hid (n = 1024 → R = 2) := Lib.hid (fun h => by rw [← hR, h]; rfl)
  have H3 : Hid (n ≠ 256 → n ≠ 512 → n ≠ 1024 → R = -1) := Lib.hid (fun h0 h1 h2 => by rw [← hR]; unfold bidx; rw [if_neg h0, if_neg h1, if_neg h2])
  clear hR
  go_enter Tryd.func38, Tryd.ntmps38
  go_wp2_with fail
  go_loop [8, 5] (fun j _ => ∃ k : Nat, k ≤ 3 ∧ j = .int .i64 k ∧ Hid ((0 < k → n ≠ 256) ∧ (1 < k → n ≠ 512) ∧ (2 < k → n ≠ 1024))) (fun j _ => 3 - (intOf j).toNat)
  case atStart => exact ⟨0, by omega, rfl, Lib.hid ⟨fun h => absurd h (by omega), fun h => absurd h (by omega), fun h => absurd h (by omega)⟩⟩
  case round =>
    obtain ⟨k, hk, rfl, HK⟩ := hrel
    rcases k with _ | _ | _ | _ | k
    · by_cases h : n = 256
      · have e0 : (n == 256) = true := beq_iff_eq.2 h
        have hh := H0.out h
        replace h := Lib.hid h
        go_wp2_with fail
        go_ret
        exact ⟨by first | rfl | (rw [hh]; rfl), rfl⟩
      · have e0 : (n == 256) = false := beq_eq_false_iff_ne.2 h
        replace h := Lib.hid h
        go_wp2_with fail
        go_round
        case rel => exact ⟨1, by omega, by go_num, Lib.hid ⟨fun _ => h.out, fun h => absurd h (by omega), fun h => absurd h (by omega)⟩⟩
        case measure => simp [intOf]
    · by_cases h : n = 512
      · have e0 : (n == 512) = true := beq_iff_eq.2 h
        have hh := H1.out h
        replace h := Lib.hid h
        go_wp2_with fail
        go_ret
        exact ⟨by first | rfl | (rw [hh]; rfl), rfl⟩
      · have e0 : (n == 512) = false := beq_eq_false_iff_ne.2 h
        replace h := Lib.hid h
        go_wp2_with fail
        go_round
        case rel => exact ⟨2, by omega, by go_num, Lib.hid ⟨fun _ => HK.out.1 (by omega), fun _ => h.out, fun h => absurd h (by omega)⟩⟩
        case measure => simp [intOf]
    · by_cases h : n = 1024
      · have e0 : (n == 1024) = true := beq_iff_eq.2 h
        have hh := H2.out h
        replace h := Lib.hid h
        go_wp2_with fail
        go_ret
        exact ⟨by first | rfl | (rw [hh]; rfl), rfl⟩
      · have e0 : (n == 1024) = false := beq_eq_false_iff_ne.2 h
        replace h := Lib.hid h
        go_wp2_with fail
        go_round
        case rel => exact ⟨3, by omega, by go_num, Lib.hid ⟨fun _ => HK.out.1 (by omega), fun _ => HK.out.2.1 (by omega), fun _ => h.out⟩⟩
        case measure => simp [intOf]
    · have hh := H3.out (HK.out.1 (by omega)) (HK.out.2.1 (by omega)) (HK.out.2.2 (by omega))
      go_wp2_with fail
      go_ret
      exact ⟨by first | rfl | (rw [hh]; rfl), rfl⟩
    · exact absurd hk (by omega)
theorem bcontains_any (n : Int) (w : World) (h : BK w) :
    Calls Tryd.prog 24 #[.slice (some ⟨0, 0, none⟩) 3 3, .int .i64 n] w fun e w' => e = .returned (.bool (bok n)) ∧ w = w' := by
  have CI := Lib.hid (bindex_any n w h)
  have hb := Lib.hid (bok_bidx n)
  clear h
  go_enter Tryd.func24, Tryd.ntmps24
  go_wp2_with fail
  refine CI.out.mono ?_
  rintro e w' ⟨rfl, rfl⟩
  go_wp2_with fail
  go_ret
  exact ⟨by rw [← hb.out]; rfl, rfl⟩
theorem bucket_any (n : Int) (w : World) (h : BK w) :
    Calls Tryd.prog 12 #[.int .i64 n] w fun e w' => e = .returned (.bool (bok n)) ∧ w = w' := by
  have CI := Lib.hid (bcontains_any n w h)
  have b0 := h.b0
  clear h
  go_enter Tryd.func12, Tryd.ntmps12
  go_wp2_with fail
  refine CI.out.mono ?_
  rintro e w' ⟨rfl, rfl⟩
  go_wp2_with fail
  go_ret
  exact ⟨rfl, rfl⟩

def ltfits (n b : Int) : Bool := decide (n = b ∨ n ≤ b - 2)
theorem ltfits_any (n b : Int) (w : World) (hb : 0 ≤ b) (hb2 : b ≤ 100000) :
    Calls Tryd.prog 22 #[.int .i64 n, .int .i64 b] w fun e w' => e = .returned (.bool (ltfits n b)) ∧ w = w' := by
  have hw : IntKind.i64.wrap (b - 2) = b - 2 := by rw [IntKind.wrap_i64]; omega
  by_cases h : n = b
  · have e0 : (n == b) = true := beq_iff_eq.2 h
    have hV : Hid (ltfits n b = true) := Lib.hid (decide_eq_true (.inl h))
    replace h := Lib.hid h
    go_enter Tryd.func22, Tryd.ntmps22
    go_wp2_with fail
    go_ret
    exact ⟨by rw [hV.out]; rfl, rfl⟩
  · have e0 : (n == b) = false := beq_eq_false_iff_ne.2 h
    obtain ⟨v, hv⟩ : ∃ v, decide (n ≤ b - 2) = v := ⟨_, rfl⟩
    have hV : Hid (ltfits n b = v) := Lib.hid (by rw [← hv]; unfold ltfits; simp [h])
    replace h := Lib.hid h
    go_enter Tryd.func22, Tryd.ntmps22
    go_wp2_with fail
    go_ret
    exact ⟨by rw [hV.out]; rfl, rfl⟩

def ltpart (kind : Int) (d : List UInt8) : List UInt8 := vput kind ++ (vput d.length ++ d)
set_option maxRecDepth 100000 in
set_option maxHeartbeats 4000000 in
theorem ltpart_any (kind : Int) (l d : List UInt8) (A B : Option Addr) (n cn m cm : Nat) (w : World) (hn : l.length = n) (hm : d.length = m) (hr : Rd w A (bv l)) (hd : Rd w B (bv d)) (hl : n ≤ 1000000) (hm1 : m ≤ 1000000) (h0 : 0 ≤ kind) (hk : kind ≤ 63) :
    Calls Tryd.prog 23 #[.slice A n cn, .int .u64 kind, .slice B m cm] w (RetS 5 w (l ++ ltpart kind d).length (bv (l ++ ltpart kind d))) := by
  have C1 := Lib.hid (vput_any kind l A cn w hr (by omega) h0 (by omega))
  rw [hn] at C1
  obtain ⟨n1, hn1⟩ : ∃ x, (l ++ vput kind).length = x := ⟨_, rfl⟩
  rw [hn1] at C1
  have hv1 : (vput kind).length ≤ 8 := by rw [vput_length]; exact vl_bd kind
  have hn1b : n1 ≤ 1000008 := by rw [← hn1, List.length_append]; omega
  have C2 : Hid (∀ (A1 : Option Addr) (c1 : Nat) (w1 : World), Rd w1 A1 (bv (l ++ vput kind)) → Calls Tryd.prog 37 #[.slice A1 n1 c1, .int .u64 (m : Int)] w1 (RetS 5 w1 ((l ++ vput kind) ++ vput (m : Int)).length (bv ((l ++ vput kind) ++ vput (m : Int))))) := Lib.hid (fun A1 c1 w1 h1 => by
    have := vput_any (m : Int) (l ++ vput kind) A1 c1 w1 h1 (by omega) (by omega) (by omega)
    rw [hn1] at this
    exact this)
  have hv2 : (vput (m : Int)).length ≤ 8 := by rw [vput_length]; exact vl_bd _
  obtain ⟨L2, hL2⟩ : ∃ x, (l ++ vput kind) ++ vput (m : Int) = x := ⟨_, rfl⟩
  obtain ⟨n2, hn2⟩ : ∃ x, L2.length = x := ⟨_, rfl⟩
  have hn2b : n2 ≤ 1000016 := by rw [← hn2, ← hL2, List.length_append, hn1]; omega
  rw [hL2] at C2
  rw [hn2] at C2
  have hfin : Hid (l ++ ltpart kind d = L2 ++ d) := Lib.hid (by rw [← hL2]; unfold ltpart; rw [hm]; simp only [List.append_assoc])
  have hlen : Hid ((l ++ ltpart kind d).length = n2 + m) := Lib.hid (by rw [hfin.out, List.length_append, hn2, hm])
  have hw : IntKind.u64.wrap (m : Int) = (m : Int) := by rw [IntKind.wrap_u64]; omega
  have hbm : (bv d).length = m := by rw [bv_length, hm]
  rw [hlen.out, hfin.out]
  replace hd := Lib.hid hd
  replace hbm := Lib.hid hbm
  clear hr hn hm hn1 hL2 hn2 hlen hfin hv1 hv2
  go_enter Tryd.func23, Tryd.ntmps23
  go_wp2_with fail
  refine C1.out.mono ?_
  rintro e w1 ⟨A1, c1, rfl, o1, b1⟩
  replace C2 := Lib.hid (C2.out A1 c1 w1 (Rd.of_own o1))
  replace b1 := Lib.hid b1
  clear C1 o1
  go_wp2_with fail
  refine C2.out.mono ?_
  rintro e w2 ⟨A2, c2, rfl, o2, b2⟩
  have O2 := Lib.hid (own_base (base2 := w.heap.size) o2 (fun k hk => by have := (o2.lt k hk).1; have := b1.out.size; omega))
  have B2 : Hid (Below w.heap.size w w2) := Lib.hid (b1.out.trans (b2.mono b1.out.size))
  have R2 := Lib.hid (hd.out.below B2.out)
  clear C2 o2 b1 b2 hd
  go_wp2_with (at_builtin; refine Hid.out ?_)
  refine Lib.hid ?_
  refine wpList_app _ rfl _ _ 23 rfl w.heap.size 5 (.int .u8 0) 1 infoB Tryd.underlying23 rfl (.slice A2 n2 c2) n2 (bv L2) rfl O2.out B m cm (bv d) rfl hbm.out R2.out (bv_one _) (by unfold maxLen; omega) (by omega) B2.out.size ?_
  intro A6 c6 w6 o6 g6 _
  have F6 : Hid (Below w.heap.size w w6) := Lib.hid (B2.out.grown g6 B2.out.size (fun k hk => (O2.out.lt k hk).1))
  replace o6 := Lib.hid o6
  clear g6 O2 R2 B2
  go_wp2_with fail
  go_ret
  have e : bv L2 ++ bv d = bv (L2 ++ d) := by simp [bv]
  rw [← e]
  exact ⟨A6, c6, rfl, o6.out, F6.out⟩
end Go.Proofs.YtdldipkbknhhoaaDoor

/- letter: a message without padding. -/
namespace Go.Proofs.YtdldipkbknhhoaaDoor
open Go.RowKit

theorem fput_len (fs : List Fd) : (fput fs).1.length ≤ 8002 := by
  unfold fput
  split
  · simp
  · rename_i h
    split
    · rename_i ha
      rw [Bool.or_eq_true, not_or] at h
      obtain ⟨h1, h2⟩ := h
      have h1 : ¬ 16 < fs.length := by simpa using h1
      have h3 : ∀ f ∈ fs, f.name.size ≤ 60 ∧ f.value.size ≤ 400 := fun f hf => by
        have hk := List.all_eq_true.1 ha f hf
        unfold fok at hk
        rw [Bool.and_eq_true] at hk
        refine ⟨nameok_size hk.1, ?_⟩
        rcases Nat.lt_or_ge 400 f.value.size with h4 | h4
        · exact absurd (List.any_eq_true.2 ⟨f, hf, decide_eq_true h4⟩) h2
        · exact h4
      have := flines_len fs h3
      simp only [List.length_cons]
      omega
    · simp
theorem ltpart_len (kind : Int) (d : List UInt8) : (ltpart kind d).length ≤ d.length + 16 := by
  have h1 : (vput kind).length ≤ 8 := by rw [vput_length]; exact vl_bd kind
  have h2 : (vput d.length).length ≤ 8 := by rw [vput_length]; exact vl_bd _
  unfold ltpart
  simp only [List.length_append]
  omega
/-- A message's parts without padding, and what is wrong. -/
def ltplain (fs : List Fd) (D : List UInt8) : List UInt8 × Int :=
  if (fput fs).2 ≠ 0 then ([], (fput fs).2) else (ltpart 1 (fput fs).1 ++ (if D.length = 0 then [] else ltpart 0 D), 0)
theorem ltplain_len (fs : List Fd) (D : List UInt8) : (ltplain fs D).1.length ≤ 8100 + D.length := by
  have h1 := fput_len fs
  have h2 := ltpart_len 1 (fput fs).1
  have h3 := ltpart_len 0 D
  unfold ltplain
  split
  · simp
  · simp only [List.length_append]
    split
    · simp only [List.length_nil]; omega
    · omega
theorem ltplain_err (fs : List Fd) (D : List UInt8) (h : (ltplain fs D).2 ≠ 0) : (ltplain fs D).1 = [] := by
  unfold ltplain at h ⊢
  by_cases h1 : (fput fs).2 ≠ 0
  · rw [if_pos h1]
  · rw [if_neg h1] at h
    exact absurd rfl h

set_option maxRecDepth 100000 in
set_option maxHeartbeats 8000000 in
theorem ltplain_any (fs : List Fd) (D : List UInt8) (A B : Option Addr) (n cap m cm : Nat) (w : World) (hn : fs.length = n) (hm : D.length = m) (hr : Rd w A (fdv fs)) (hd : Rd w B (bv D)) (hl : n ≤ 1000000) (hm1 : m ≤ 900000) (hs : ∀ f ∈ fs, f.name.size ≤ 1000000 ∧ f.value.size ≤ 1000000) :
    Calls Tryd.prog 21 #[.agg #[.slice A n cap, .slice B m cm]] w (RetP w (ltplain fs D)) := by
  have CF : Hid (∀ W, Below w.heap.size w W → Calls Tryd.prog 36 #[.slice A n cap] W (RetP W (fput fs))) := Lib.hid (fun W b => fput_any fs A cap n W hn (hr.below b) hl hs)
  have HB : Hid (∀ W, Below w.heap.size w W → Rd W B (bv D)) := Lib.hid (fun W b => hd.below b)
  obtain ⟨L, hL⟩ : ∃ x, (fput fs).1 = x := ⟨_, rfl⟩
  obtain ⟨E, hE⟩ : ∃ x, (fput fs).2 = x := ⟨_, rfl⟩
  obtain ⟨RL, hRL⟩ : ∃ x, (ltplain fs D).1 = x := ⟨_, rfl⟩
  obtain ⟨RE, hRE⟩ : ∃ x, (ltplain fs D).2 = x := ⟨_, rfl⟩
  have hLb : L.length ≤ 8002 := by rw [← hL]; exact fput_len fs
  obtain ⟨ln, hln⟩ : ∃ x, L.length = x := ⟨_, rfl⟩
  rw [hln] at hLb
  have CF2 : Hid (∀ W, Below w.heap.size w W → Calls Tryd.prog 36 #[.slice A n cap] W (fun e w' => ∃ A' c', e = .returned (.tuple #[.slice A' ln c', .int .i64 E]) ∧ w'.ownsRow W.heap.size 5 1 (.slice A' ln c') ln (bv L) ∧ Below W.heap.size W w')) := Lib.hid (fun W b => by
    refine (CF.out W b).mono ?_
    rintro e w' ⟨A', c', he, ho, hb⟩
    rw [hL] at he ho
    rw [hE] at he
    rw [hln] at he ho
    exact ⟨A', c', he, ho, hb⟩)
  have hp : Hid (∀ e w', (∃ A' c', e = .returned (.tuple #[.slice A' RL.length c', .int .i64 RE]) ∧ w'.ownsRow w.heap.size 5 1 (.slice A' RL.length c') RL.length (bv RL) ∧ Below w.heap.size w w') → RetP w (ltplain fs D) e w') := Lib.hid (fun e w' h => by
    unfold RetP
    rw [hRL, hRE]
    exact h)
  have H1 : Hid (E ≠ 0 → RL = [] ∧ RE = E) := Lib.hid (fun h => by
    rw [← hRL, ← hRE]; unfold ltplain; rw [hE, if_pos h]; exact ⟨rfl, rfl⟩)
  have H2 : Hid (E = 0 → RL = ltpart 1 L ++ (if m = 0 then [] else ltpart 0 D) ∧ RE = 0) := Lib.hid (fun h => by
    rw [← hRL, ← hRE]; unfold ltplain; rw [hE, if_neg (by rw [h]; decide), hL, hm]; exact ⟨rfl, rfl⟩)
  replace hln := Lib.hid hln
  replace hm := Lib.hid hm
  refine Calls.mono ?_ hp.out
  clear hL hE hRL hRE hr hd hn hs CF hp
  have hs1 : ∀ o, (w.alloc o).heap.size = w.heap.size + 1 := fun o => by simp
  go_enter Tryd.func21, Tryd.ntmps21
  go_wp2_with fail
  obtain ⟨wa, hwa⟩ : ∃ wa, w.alloc (.cells #[.slice A n cap, .slice B m cm] 25) = wa := ⟨_, rfl⟩
  obtain ⟨g, hg⟩ : ∃ g, w.heap.size = g := ⟨_, rfl⟩
  have X0 : wa.heap[g]? = some (.cells #[.slice A n cap, .slice B m cm] 25 (0, 0)) := by rw [← hwa, ← hg]; exact heap_alloc_new w _
  have ba : Below w.heap.size w wa := by rw [← hwa]; exact (Below.refl _ w).alloc (Nat.le_refl _) _
  rw [hwa]
  try rw [hg]
  have hsz : Hid (wa.heap.size = g + 1) := Lib.hid (by rw [← hwa, ← hg]; simp)
  replace ba := Lib.hid ba
  replace hg := Lib.hid hg
  clear hwa hs1
  refine (CF2.out _ ba.out).mono ?_
  rintro e w1 ⟨A1, c1, rfl, o1, b1⟩
  have X1 := heap_fr X0 (Fr.of_below b1 NoS) (fun x => x)
  have y1 := wrote_cell X1 1 _ rfl
  have B1 : Hid (Below w.heap.size w w1) := Lib.hid (ba.out.trans (b1.mono ba.out.size))
  have R1 := Lib.hid (Rd.of_own o1)
  replace X1 := Lib.hid X1
  clear CF2 b1 X0
  by_cases hE0 : E = 0
  · obtain ⟨e1, e2⟩ := H2.out hE0
    have bE : (E != 0) = false := by rw [hE0]; rfl
    subst hE0
    clear H1 H2 o1
    subst e2
    replace e1 := Lib.hid e1
    have CP := Lib.hid (ltpart_any 1 [] L none A1 0 0 ln c1 w1 rfl hln.out (Rd.nil _ _) R1.out (by omega) (by omega) (by omega) (by omega))
    rw [List.nil_append] at CP
    have hPl := ltpart_len 1 L
    rw [hln.out] at hPl
    obtain ⟨P1, hP1⟩ : ∃ x, ltpart 1 L = x := ⟨_, rfl⟩
    rw [hP1] at CP hPl e1
    obtain ⟨pn, hpn⟩ : ∃ x, P1.length = x := ⟨_, rfl⟩
    rw [hpn] at CP hPl
    replace hpn := Lib.hid hpn
    clear hP1 R1
    go_wp2_with fail
    refine CP.out.mono ?_
    rintro e w2 ⟨A2, c2, rfl, o2, b2⟩
    have y2 := wrote_cell (heap_fr X1.out (Fr.of_below b2 NoS) (fun x => x)) 1 _ rfl
    have B2 : Hid (Below w.heap.size w w2) := Lib.hid (B1.out.trans (b2.mono B1.out.size))
    have hw1 : Hid (w.heap.size ≤ w1.heap.size) := Lib.hid B1.out.size
    replace o2 := Lib.hid o2
    clear CP b2 B1 X1 y1
    rcases Nat.eq_zero_or_pos m with hm0 | hm0
    · have d0 : decide ((0 : Int) < (m : Int)) = false := decide_eq_false (by omega)
      have d0n : decide (0 < m) = false := decide_eq_false (by omega)
      have e3 : RL = P1 := by rw [e1.out, if_pos hm0, List.append_nil]
      subst e3
      clear e1
      replace hm0 := Lib.hid hm0
      go_wp2_with fail
      go_ret2
      rw [hpn.out]
      exact ⟨A2, c2, rfl, own_base (base2 := w.heap.size) o2.out (fun k hk => by have := (o2.out.lt k hk).1; have := hw1.out; omega), B2.out⟩
    · have d0 : decide ((0 : Int) < (m : Int)) = true := decide_eq_true (by omega)
      have d0n : decide (0 < m) = true := decide_eq_true hm0
      have e3 : Hid (RL = P1 ++ ltpart 0 D) := Lib.hid (by rw [e1.out, if_neg (by omega)])
      clear e1
      have CQ := Lib.hid (ltpart_any 0 P1 D A2 B pn c2 m cm w2 hpn.out hm.out (Rd.of_own o2.out) (HB.out _ B2.out) (by omega) (by omega) (by omega) (by omega))
      rw [← e3.out] at CQ
      clear o2 HB
      go_wp2_with fail
      refine CQ.out.mono ?_
      rintro e w3 ⟨A3, c3, rfl, o3, b3⟩
      have B3 : Hid (Below w.heap.size w w3) := Lib.hid (B2.out.trans (b3.mono B2.out.size))
      replace o3 := Lib.hid o3
      clear CQ b3
      go_wp2_with fail
      go_ret2
      exact ⟨A3, c3, rfl, own_base (base2 := w.heap.size) o3.out (fun k hk => by have := (o3.out.lt k hk).1; have := B2.out.size; omega), B3.out⟩
  · have bE : (E != 0) = true := by simpa using hE0
    obtain ⟨e1, e2⟩ := H1.out hE0
    subst e1
    subst e2
    replace hE0 := Lib.hid hE0
    clear H1 H2 o1 R1
    go_wp2_with fail
    go_ret2
    exact ⟨none, 0, rfl, World.ownsRow_nil _ _ _ _, B1.out⟩
end Go.Proofs.YtdldipkbknhhoaaDoor

/- letter: Put. (Printed by gen_ltC.py.) -/
namespace Go.Proofs.YtdldipkbknhhoaaDoor
open Go.RowKit

theorem jump_mono {l : Nat} {J J' : Act → World → Prop} {Q : Exit → Act → World → Prop} (h : ∀ a w, J a w → J' a w) : ∀ e a w, Exit.jump l J Q e a w → Exit.jump l J' Q e a w := by
  intro e a w
  cases e
  all_goals first
    | exact fun x => ⟨x.1, h _ _ x.2⟩
    | exact fun x => x
theorem wp_scope_jumps2 {P : Program} {a : Act} {w : World} {Q : Exit → Act → World → Prop} {c rest : Code} (l : Nat) (J : Act → World → Prop) (μ : Act → World → Nat) (hf : findLabel c l = some (Code.skip.seq rest))
    (pass : ∀ a w, J a w → rest.wp P (Exit.jump l (fun a' w' => J a' w' ∧ μ a' w' < μ a w) Q) a w)
    (first : (∀ a w, J a w → rest.wp P (Exit.jump l J Q) a w) → c.wp P (Exit.jump l J Q) a w) : (Code.scope c).wp P Q a w :=
  wp_scope_jumps l J μ hf (first fun a w hJ => Code.wp_mono (jump_mono fun _ _ h => h.1) (pass a w hJ)) (fun a w hJ => wp_seq (wp_skip (pass a w hJ)))
theorem own_made (w : World) (n : Nat) (hn : n ≤ 1000000) : (w.alloc (.cells (madeCells #[.int .u8 0] n) 5)).ownsRow 0 5 1 (.slice (some ⟨w.heap.size, 0, none⟩) n n) n (bv (List.replicate n 0)) := by
  refine ⟨by simp [bv], .inr ⟨w.heap.size, n, madeCells #[.int .u8 0] n, rfl, Nat.zero_le _, heap_alloc_new w _, Nat.le_refl _, by unfold maxLen; omega, ?_, ?_⟩⟩
  · have := congrArg List.length (toList_madeCells_one (.int .u8 0) n)
    simpa using this
  · rw [toList_madeCells_one]; simp [bv]
def lenv : Value → Nat | .slice _ n _ => n | _ => 0

/-- Padding. -/
def zpart (j : Nat) : List UInt8 := ltpart 33 (List.replicate j 0)
def zpads (js : List Nat) : List UInt8 := js.flatMap zpart
theorem vl_small {n : Int} (h : n < 64) : vl n = 1 := by unfold vl; rw [vlen1 h]; rfl
theorem zpart_len {j : Nat} (h : j ≤ 62) : (zpart j).length = j + 2 := by
  unfold zpart ltpart
  rw [List.length_append, List.length_append, vput_length, vput_length, List.length_replicate, vl_small (by omega), vl_small (by omega)]
  omega
theorem zpads_snoc (js : List Nat) (j : Nat) : zpads (js ++ [j]) = zpads js ++ zpart j := by simp [zpads]
/-- What is wrong; what is laid. -/
def ltE (fs : List Fd) (D : List UInt8) (b : Int) : Int :=
  if bok b = false then 13 else if (ltplain fs D).2 ≠ 0 then (ltplain fs D).2 else if ltfits (ltplain fs D).1.length b = false then 4 else 0
def LtR (fs : List Fd) (D : List UInt8) (b : Int) (R : List UInt8) : Prop :=
  (ltE fs D b ≠ 0 → R = []) ∧ (ltE fs D b = 0 → (R.length : Int) = b ∧ ∃ js : List Nat, (∀ j ∈ js, j ≤ 62) ∧ R = (ltplain fs D).1 ++ zpads js)
def RetPut (w : World) (fs : List Fd) (D : List UInt8) (b : Int) (e : Ending) (w' : World) : Prop :=
  ∃ R A c, e = .returned (.tuple #[.slice A R.length c, .int .i64 (ltE fs D b)]) ∧ LtR fs D b R ∧ w'.ownsRow w.heap.size 5 1 (.slice A R.length c) R.length (bv R) ∧ Below w.heap.size w w'
theorem bok_bd {b : Int} (h : bok b = true) : 256 ≤ b ∧ b ≤ 1024 := by
  have := of_decide_eq_true h
  omega

/-- Where Put stands at its label. -/
structure LtJ (w0 : World) (base : List UInt8) (b : Int) (w : World) (A : Option Addr) (c n : Nat) (acc : List UInt8) : Prop where
  own : w.ownsRow w0.heap.size 5 1 (.slice A n c) n (bv acc)
  len : acc.length = n
  js : ∃ js : List Nat, (∀ j ∈ js, j ≤ 62) ∧ acc = base ++ zpads js
  le : (n : Int) ≤ b
  ne : b - n ≠ 1
  bel : Below w0.heap.size w0 w
  bb : b ≤ 1024
def JAt (w0 : World) (E : Int) (base : List UInt8) (b : Int) (A0 : Option Addr) (m0 p0 : Nat) (B : Option Addr) (m cm g : Nat) (a : Act) (w : World) : Prop :=
  ∃ A c n acc, (E = 0 ∧ LtJ w0 base b w A c n acc) ∧ ∃ u3 u8 u9 u10 u11 u12 u13 u14 u15 u16 u17 u18 u19 u20 u21 u22 u23 u24 u25 u26 u27 u28 u29 u30 u31 u32 u33 u34 u35 u36 u37 u38 u39 u40 u41 u42 u43 u44 u45 u46 u47 u48, a = { tmps := #[.agg #[.slice A0 m0 p0, .slice B m cm], .int .i64 b, .pointer (some ⟨g, 0, none⟩), u3, .slice none 0 0, .int .i64 0, .slice A n c, .int .i64 0, u8, u9, u10, u11, u12, u13, u14, u15, u16, u17, u18, u19, u20, u21, u22, u23, u24, u25, u26, u27, u28, u29, u30, u31, u32, u33, u34, u35, u36, u37, u38, u39, u40, u41, u42, u43, u44, u45, u46, u47, u48], defers := [] }
/-- A part more. -/
theorem LtJ.next {w0 w w' : World} {base : List UInt8} {b : Int} {A A' : Option Addr} {c c' n j : Nat} {acc : List UInt8} (h : LtJ w0 base b w A c n acc) (hj : j ≤ 62) (hb : (n : Int) + (j + 2) ≤ b) (hne : b - (n + (j + 2)) ≠ 1) {B : Nat} (hB : w0.heap.size ≤ B)
    (o : w'.ownsRow B 5 1 (.slice A' (acc ++ zpart j).length c') (acc ++ zpart j).length (bv (acc ++ zpart j))) (bel : Below w.heap.size w w') : LtJ w0 base b w' A' c' (n + (j + 2)) (acc ++ zpart j) := by
  have hl : (acc ++ zpart j).length = n + (j + 2) := by rw [List.length_append, h.len, zpart_len hj]
  rw [hl] at o
  obtain ⟨js, hjs, e⟩ := h.js
  refine ⟨own_base (base2 := w0.heap.size) o (fun k hk => by have := (o.lt k hk).1; omega), hl, ⟨js ++ [j], fun x hx => ?_, by rw [zpads_snoc, e, List.append_assoc]⟩, by omega, by omega, h.bel.trans (bel.mono h.bel.size), h.bb⟩
  rcases List.mem_append.1 hx with h1 | h1
  · exact hjs x h1
  · rw [List.mem_singleton.1 h1]; exact hj

set_option maxRecDepth 100000 in
set_option maxHeartbeats 16000000 in
theorem ltput_any (fs : List Fd) (D : List UInt8) (b : Int) (A0 B : Option Addr) (m0 p0 m cm : Nat) (w : World) (hbk : BK w) (hn : fs.length = m0) (hm : D.length = m) (hr : Rd w A0 (fdv fs)) (hd : Rd w B (bv D)) (hl : m0 ≤ 1000000) (hm1 : m ≤ 900000) (hs : ∀ f ∈ fs, f.name.size ≤ 1000000 ∧ f.value.size ≤ 1000000) :
    Calls Tryd.prog 10 #[.agg #[.slice A0 m0 p0, .slice B m cm], .int .i64 b] w (RetPut w fs D b) := by
  obtain ⟨E, hE⟩ : ∃ x, ltE fs D b = x := ⟨_, rfl⟩
  have hfin : Hid (∀ e w', (∃ R A c, e = .returned (.tuple #[.slice A R.length c, .int .i64 E]) ∧ LtR fs D b R ∧ w'.ownsRow w.heap.size 5 1 (.slice A R.length c) R.length (bv R) ∧ Below w.heap.size w w') → RetPut w fs D b e w') := Lib.hid (fun e w' h => by
    unfold RetPut; rw [hE]; exact h)
  refine Calls.mono ?_ hfin.out
  clear hfin
  obtain ⟨v, hv⟩ : ∃ x, bok b = x := ⟨_, rfl⟩
  obtain ⟨P, hP⟩ : ∃ x, (ltplain fs D).1 = x := ⟨_, rfl⟩
  obtain ⟨F, hF⟩ : ∃ x, (ltplain fs D).2 = x := ⟨_, rfl⟩
  obtain ⟨pn, hpn⟩ : ∃ x, P.length = x := ⟨_, rfl⟩
  obtain ⟨ft, hft⟩ : ∃ x, ltfits (pn : Int) b = x := ⟨_, rfl⟩
  have CB : Hid (∀ W, Below w.heap.size w W → Calls Tryd.prog 12 #[.int .i64 b] W fun e w' => e = .returned (.bool v) ∧ W = w') := Lib.hid (fun W bl => by rw [← hv]; exact bucket_any b W (hbk.below bl))
  have CP : Hid (∀ W, Below w.heap.size w W → Calls Tryd.prog 21 #[.agg #[.slice A0 m0 p0, .slice B m cm]] W fun e w' => ∃ A' c', e = .returned (.tuple #[.slice A' pn c', .int .i64 F]) ∧ w'.ownsRow W.heap.size 5 1 (.slice A' pn c') pn (bv P) ∧ Below W.heap.size W w') := Lib.hid (fun W bl => by
    refine (ltplain_any fs D A0 B m0 p0 m cm W hn hm (hr.below bl) (hd.below bl) hl hm1 hs).mono ?_
    rintro e w' ⟨A', c', he, ho, hb⟩
    rw [hP] at he ho
    rw [hF] at he
    rw [hpn] at he ho
    exact ⟨A', c', he, ho, hb⟩)
  have hPb : pn ≤ 1000000 := by have := ltplain_len fs D; rw [hP, hpn, hm] at this; omega
  have hEE : Hid (E = if v = false then 13 else if F ≠ 0 then F else if ft = false then 4 else 0) := Lib.hid (by rw [← hE]; unfold ltE; rw [hv, hF, hP, hpn, hft])
  have hLR : Hid (∀ R, ((E ≠ 0 → R = []) ∧ (E = 0 → (R.length : Int) = b ∧ ∃ js : List Nat, (∀ j ∈ js, j ≤ 62) ∧ R = P ++ zpads js)) → LtR fs D b R) := Lib.hid (fun R h => by unfold LtR; rw [hE, hP]; exact h)
  have hvb : Hid (v = true → 256 ≤ b ∧ b ≤ 1024) := Lib.hid (fun h => bok_bd (by rw [hv, h]))
  have hftb : Hid (ft = true → (pn : Int) = b ∨ (pn : Int) ≤ b - 2) := Lib.hid (fun h => of_decide_eq_true (by unfold ltfits at hft; rw [hft, h]))
  have CF : Hid (∀ W, v = true → Calls Tryd.prog 22 #[.int .i64 (pn : Int), .int .i64 b] W fun e w' => e = .returned (.bool ft) ∧ W = w') := Lib.hid (fun W h => by rw [← hft]; exact ltfits_any pn b W (by have := hvb.out h; omega) (by have := hvb.out h; omega))
  replace hpn := Lib.hid hpn
  clear hE hv hP hF hft hbk hn hm hr hd hs
  have hs1 : ∀ o, (w.alloc o).heap.size = w.heap.size + 1 := fun o => by simp
  obtain ⟨g, hg⟩ : ∃ g, w.heap.size = g := ⟨_, rfl⟩
  obtain ⟨wa, hwa⟩ : ∃ wa, w.alloc (.cells #[.slice A0 m0 p0, .slice B m cm] 25) = wa := ⟨_, rfl⟩
  have X0 : wa.heap[g]? = some (.cells #[.slice A0 m0 p0, .slice B m cm] 25 (0, 0)) := by rw [← hwa, ← hg]; exact heap_alloc_new w _
  have ba : Hid (Below w.heap.size w wa) := Lib.hid (by rw [← hwa]; exact (Below.refl _ w).alloc (Nat.le_refl _) _)
  have hsz : Hid (wa.heap.size = g + 1) := Lib.hid (by rw [← hwa, ← hg]; simp)
  go_enter Tryd.func10, Tryd.ntmps10
  go_wp2_with fail
  try rw [hwa]
  try rw [hg]
  replace hwa := Lib.hid hwa
  have hg2 := Lib.hid hg
  clear hs1
  clear hg
  refine wp_scope_jumps2 0 (JAt w E P b A0 m0 p0 B m cm g) (fun a' _ => 2000 - lenv (a'.tmps.getD 6 undef)) rfl ?_ ?_
  · rintro a wr ⟨A, c, n, acc, ⟨hE0, HJ⟩, u3, u8, u9, u10, u11, u12, u13, u14, u15, u16, u17, u18, u19, u20, u21, u22, u23, u24, u25, u26, u27, u28, u29, u30, u31, u32, u33, u34, u35, u36, u37, u38, u39, u40, u41, u42, u43, u44, u45, u46, u47, u48, rfl⟩
    subst hE0
    have hle := HJ.le
    have hne := HJ.ne
    have hbb := HJ.bb
    obtain ⟨left, hleft⟩ : ∃ left : Nat, (left : Int) = b - n := ⟨(b - n).toNat, by omega⟩
    have hw : IntKind.i64.wrap (b - (n : Int)) = (left : Int) := by rw [IntKind.wrap_i64]; omega
    by_cases h0 : left = 0
    · have d0 : ((left : Int) == 0) = true := beq_iff_eq.2 (by omega)
      have hR : Hid (LtR fs D b acc) := Lib.hid (hLR.out acc ⟨fun h => absurd rfl h, fun _ => ⟨by rw [HJ.len]; omega, HJ.js⟩⟩)
      have hlen := Lib.hid HJ.len
      have HO := Lib.hid HJ.own
      have HB := Lib.hid HJ.bel
      clear HJ CB CP CF hEE hLR hvb hftb hPb hpn ba hsz hwa X0 hle hne
      replace h0 := Lib.hid h0
      go_wp2_with fail
      simp only [Exit.jump]
      go_ret2
      exact ⟨acc, A, c, by rw [hlen.out]; rfl, hR.out, by rw [hlen.out]; exact HO.out, HB.out⟩
    · have d0 : ((left : Int) == 0) = false := beq_eq_false_iff_ne.2 (by omega)
      clear CB CP CF hEE hLR hvb hftb hPb hpn ba hsz hwa X0
      by_cases h64 : left ≤ 64
      · obtain ⟨j, hj⟩ : ∃ j : Nat, left = j + 2 := ⟨left - 2, by omega⟩
        have d1 : decide ((left : Int) ≤ 64) = true := decide_eq_true (by omega)
        have d1n : decide (left ≤ 64) = true := decide_eq_true h64
        have HMIN : ∀ (ts : Array TypeId) (t : TypeId) (w : World), (Builtin.min_ ts t #[.int .i64 (left : Int), .int .i64 64]).run Tryd.prog w = .ok (.int .i64 (left : Int)) w := fun ts t w => run_min2 _ _ _ (by omega) ts t w
        have hwj : IntKind.i64.wrap ((left : Int) - 2) = (j : Int) := by rw [IntKind.wrap_i64]; omega
        have HM : ∀ w : World, (Instr.makeSlice 23 (.int .i64 (j : Int)) (.int .i64 (j : Int))).run Tryd.prog w = .ok (.slice (some ⟨w.heap.size, 0, none⟩) j j) (w.alloc (.cells (madeCells #[.int .u8 0] j) 5)) := fun w =>
          run_make_row' (P := Tryd.prog) 23 5 (.int .u8 0) 1 Tryd.underlying23 infoB rfl .i64 .i64 j (by omega) (by omega) w
        have CQ := Lib.hid (ltpart_any 33 acc (List.replicate j 0) A (some ⟨wr.heap.size, 0, none⟩) n c j j (wr.alloc (.cells (madeCells #[.int .u8 0] j) 5)) HJ.len (by simp) ((Rd.of_own HJ.own).alloc _) (Rd.of_own (own_made wr j (by omega))) (by omega) (by omega) (by omega) (by omega))
        have HN : Hid (∀ A' c' w', w'.ownsRow (wr.heap.size + 1) 5 1 (.slice A' (acc ++ zpart j).length c') (acc ++ zpart j).length (bv (acc ++ zpart j)) → Below wr.heap.size wr w' → LtJ w P b w' A' c' (n + (j + 2)) (acc ++ zpart j)) := Lib.hid (fun A' c' w' o bl => HJ.next (by omega) (by omega) (by omega) (by have := HJ.bel.size; omega) o bl)
        have hN2 : Hid ((acc ++ ltpart 33 (List.replicate j 0)).length = n + (j + 2)) := Lib.hid (by have := zpart_len (j := j) (by omega); unfold zpart at this; rw [List.length_append, HJ.len, this])
        rw [hN2.out] at CQ
        clear HJ hle hne h0
        go_wp2_with fail
        refine CQ.out.mono ?_
        rintro e w2 ⟨A2, c2, rfl, o2, b2⟩
        have H2 := HN.out A2 c2 w2 (by
          rw [show (acc ++ zpart j).length = n + (j + 2) from hN2.out]
          have := o2
          rw [show ∀ o, (wr.alloc o).heap.size = wr.heap.size + 1 from fun o => by simp] at this
          exact this) (((Below.refl _ wr).alloc (Nat.le_refl _) _).trans (b2.mono (by simp)))
        replace H2 := Lib.hid H2
        clear CQ HN hN2 o2 b2
        go_wp2_with fail
        go_step3
        refine ⟨rfl, ⟨_, _, _, _, ⟨rfl, H2.out⟩, _, _, _, _, _, _, _, _, _, _, _, _, _, _, _, _, _, _, _, _, _, _, _, _, _, _, _, _, _, _, _, _, _, _, _, _, _, _, _, _, _, _, rfl⟩, ?_⟩
        simp [lenv]
        omega
      · by_cases h66 : 66 < left
        · have d1 : decide ((left : Int) ≤ 64) = false := decide_eq_false (by omega)
          have d1n : decide (left ≤ 64) = false := decide_eq_false h64
          have d2 : decide ((66 : Int) < (left : Int)) = true := decide_eq_true (by omega)
          have d2n : decide (66 < left) = true := decide_eq_true h66
          have HMIN : ∀ (ts : Array TypeId) (t : TypeId) (w : World), (Builtin.min_ ts t #[.int .i64 (left : Int), .int .i64 64]).run Tryd.prog w = .ok (.int .i64 64) w := fun ts t w => run_min2 _ _ _ (by omega) ts t w
          have HM : ∀ w : World, (Instr.makeSlice 23 (.int .i64 62) (.int .i64 62)).run Tryd.prog w = .ok (.slice (some ⟨w.heap.size, 0, none⟩) 62 62) (w.alloc (.cells (madeCells #[.int .u8 0] 62) 5)) := fun w =>
            run_make_row' (P := Tryd.prog) 23 5 (.int .u8 0) 1 Tryd.underlying23 infoB rfl .i64 .i64 62 (by omega) (by omega) w
          have CQ := Lib.hid (ltpart_any 33 acc (List.replicate 62 0) A (some ⟨wr.heap.size, 0, none⟩) n c 62 62 (wr.alloc (.cells (madeCells #[.int .u8 0] 62) 5)) HJ.len (by simp) ((Rd.of_own HJ.own).alloc _) (Rd.of_own (own_made wr 62 (by omega))) (by omega) (by omega) (by omega) (by omega))
          have HN : Hid (∀ A' c' w', w'.ownsRow (wr.heap.size + 1) 5 1 (.slice A' (acc ++ zpart 62).length c') (acc ++ zpart 62).length (bv (acc ++ zpart 62)) → Below wr.heap.size wr w' → LtJ w P b w' A' c' (n + (62 + 2)) (acc ++ zpart 62)) := Lib.hid (fun A' c' w' o bl => HJ.next (by omega) (by omega) (by omega) (by have := HJ.bel.size; omega) o bl)
          have hN2 : Hid ((acc ++ ltpart 33 (List.replicate 62 0)).length = n + (62 + 2)) := Lib.hid (by have := zpart_len (j := 62) (by omega); unfold zpart at this; rw [List.length_append, HJ.len, this])
          rw [hN2.out] at CQ
          clear HJ hle hne h0
          go_wp2_with fail
          refine CQ.out.mono ?_
          rintro e w2 ⟨A2, c2, rfl, o2, b2⟩
          have H2 := HN.out A2 c2 w2 (by
            rw [show (acc ++ zpart 62).length = n + (62 + 2) from hN2.out]
            have := o2
            rw [show ∀ o, (wr.alloc o).heap.size = wr.heap.size + 1 from fun o => by simp] at this
            exact this) (((Below.refl _ wr).alloc (Nat.le_refl _) _).trans (b2.mono (by simp)))
          replace H2 := Lib.hid H2
          clear CQ HN hN2 o2 b2
          go_wp2_with fail
          go_step3
          refine ⟨rfl, ⟨_, _, _, _, ⟨rfl, H2.out⟩, _, _, _, _, _, _, _, _, _, _, _, _, _, _, _, _, _, _, _, _, _, _, _, _, _, _, _, _, _, _, _, _, _, _, _, _, _, _, _, _, _, _, rfl⟩, ?_⟩
          simp [lenv]
          omega
        · have d1 : decide ((left : Int) ≤ 64) = false := decide_eq_false (by omega)
          have d1n : decide (left ≤ 64) = false := decide_eq_false h64
          have d2 : decide ((66 : Int) < (left : Int)) = false := decide_eq_false (by omega)
          have d2n : decide (66 < left) = false := decide_eq_false h66
          have HM : ∀ w : World, (Instr.makeSlice 23 (.int .i64 30) (.int .i64 30)).run Tryd.prog w = .ok (.slice (some ⟨w.heap.size, 0, none⟩) 30 30) (w.alloc (.cells (madeCells #[.int .u8 0] 30) 5)) := fun w =>
            run_make_row' (P := Tryd.prog) 23 5 (.int .u8 0) 1 Tryd.underlying23 infoB rfl .i64 .i64 30 (by omega) (by omega) w
          have CQ := Lib.hid (ltpart_any 33 acc (List.replicate 30 0) A (some ⟨wr.heap.size, 0, none⟩) n c 30 30 (wr.alloc (.cells (madeCells #[.int .u8 0] 30) 5)) HJ.len (by simp) ((Rd.of_own HJ.own).alloc _) (Rd.of_own (own_made wr 30 (by omega))) (by omega) (by omega) (by omega) (by omega))
          have HN : Hid (∀ A' c' w', w'.ownsRow (wr.heap.size + 1) 5 1 (.slice A' (acc ++ zpart 30).length c') (acc ++ zpart 30).length (bv (acc ++ zpart 30)) → Below wr.heap.size wr w' → LtJ w P b w' A' c' (n + (30 + 2)) (acc ++ zpart 30)) := Lib.hid (fun A' c' w' o bl => HJ.next (by omega) (by omega) (by omega) (by have := HJ.bel.size; omega) o bl)
          have hN2 : Hid ((acc ++ ltpart 33 (List.replicate 30 0)).length = n + (30 + 2)) := Lib.hid (by have := zpart_len (j := 30) (by omega); unfold zpart at this; rw [List.length_append, HJ.len, this])
          rw [hN2.out] at CQ
          clear HJ hle hne h0
          go_wp2_with fail
          refine CQ.out.mono ?_
          rintro e w2 ⟨A2, c2, rfl, o2, b2⟩
          have H2 := HN.out A2 c2 w2 (by
            rw [show (acc ++ zpart 30).length = n + (30 + 2) from hN2.out]
            have := o2
            rw [show ∀ o, (wr.alloc o).heap.size = wr.heap.size + 1 from fun o => by simp] at this
            exact this) (((Below.refl _ wr).alloc (Nat.le_refl _) _).trans (b2.mono (by simp)))
          replace H2 := Lib.hid H2
          clear CQ HN hN2 o2 b2
          go_wp2_with fail
          go_step3
          refine ⟨rfl, ⟨_, _, _, _, ⟨rfl, H2.out⟩, _, _, _, _, _, _, _, _, _, _, _, _, _, _, _, _, _, _, _, _, _, _, _, _, _, _, _, _, _, _, _, _, _, _, _, _, _, _, _, _, _, _, rfl⟩, ?_⟩
          simp [lenv]
          omega
  · intro hp
    go_wp2_with fail
    refine (CB.out _ ba.out).mono ?_
    rintro e w' ⟨rfl, rfl⟩
    clear CB
    cases v with
    | false =>
      have hE := hEE.out
      rw [if_pos rfl] at hE
      have hR : Hid (LtR fs D b []) := Lib.hid (hLR.out [] ⟨fun _ => rfl, fun h => absurd (hE.symm.trans h) (by decide)⟩)
      subst hE
      clear CP CF hEE hLR hvb hftb hp
      go_wp2_with fail
      simp only [Exit.jump]
      go_ret2
      exact ⟨[], none, 0, rfl, hR.out, World.ownsRow_nil _ _ _ _, ba.out⟩
    | true =>
      have hvb1 := hvb.out rfl
      have hE1 : Hid (E = if F ≠ 0 then F else if ft = false then 4 else 0) := Lib.hid (by have := hEE.out; rw [if_neg (by decide)] at this; exact this)
      have y0 := wrote_cell X0 0 _ rfl
      have y1 := wrote_cell X0 1 _ rfl
      clear hEE hvb
      go_wp2_with fail
      refine (CP.out _ ba.out).mono ?_
      rintro e w1 ⟨A1, c1, rfl, o1, b1⟩
      have B1 : Hid (Below w.heap.size w w1) := Lib.hid (ba.out.trans (b1.mono ba.out.size))
      have O1 := Lib.hid (own_base (base2 := w.heap.size) o1 (fun k hk => by have := (o1.lt k hk).1; have := ba.out.size; omega))
      clear CP o1 b1 y0 y1
      by_cases hF : F = 0
      · have bF : (F != 0) = false := by rw [hF]; rfl
        have hE2 : Hid (E = if ft = false then 4 else 0) := Lib.hid (by have := hE1.out; rw [if_neg (by rw [hF]; decide)] at this; exact this)
        subst hF
        clear hE1
        go_wp2_with fail
        refine (CF.out _ (by first | rfl | trivial)).mono ?_
        rintro e w' ⟨rfl, rfl⟩
        clear CF
        cases ft with
        | false =>
          have hE := hE2.out
          rw [if_pos rfl] at hE
          have hR : Hid (LtR fs D b []) := Lib.hid (hLR.out [] ⟨fun _ => rfl, fun h => absurd (hE.symm.trans h) (by decide)⟩)
          subst hE
          clear hE2 hLR hftb hp
          go_wp2_with fail
          simp only [Exit.jump]
          go_ret2
          exact ⟨[], none, 0, rfl, hR.out, World.ownsRow_nil _ _ _ _, B1.out⟩
        | true =>
          have hE := hE2.out
          rw [if_neg (by decide)] at hE
          have HJ : Hid (LtJ w P b w1 A1 c1 pn P) := Lib.hid ⟨O1.out, hpn.out, ⟨[], by simp, by simp [zpads]⟩, by have := hftb.out rfl; omega, by have := hftb.out rfl; omega, B1.out, by omega⟩
          clear hE2 hLR hftb O1 B1
          replace hE := Lib.hid hE
          go_wp2_with fail
          go_step3
          simp only [Exit.then]
          apply_assumption
          refine hp _ _ ?_
          exact ⟨_, _, _, _, ⟨hE.out, HJ.out⟩, _, _, _, _, _, _, _, _, _, _, _, _, _, _, _, _, _, _, _, _, _, _, _, _, _, _, _, _, _, _, _, _, _, _, _, _, _, _, _, _, _, _, rfl⟩
      · have bF : (F != 0) = true := by simpa using hF
        have hE := hE1.out
        rw [if_pos hF] at hE
        have hR : Hid (LtR fs D b []) := Lib.hid (hLR.out [] ⟨fun _ => rfl, fun h => absurd (hE.symm.trans h) hF⟩)
        subst hE
        replace hF := Lib.hid hF
        clear CF hE1 hLR hftb hp O1
        go_wp2_with fail
        simp only [Exit.jump]
        go_ret2
        exact ⟨[], none, 0, rfl, hR.out, World.ownsRow_nil _ _ _ _, B1.out⟩
end Go.Proofs.YtdldipkbknhhoaaDoor

/- letter: the reader takes a part. -/
namespace Go.Proofs.YtdldipkbknhhoaaDoor
open Go.RowKit

theorem vget_bd (l : List UInt8) (h : (vget l).2.2 = 0) : 0 ≤ (vget l).1 ∧ (vget l).1 ≤ 4611686018427387903 ∧ 1 ≤ (vget l).2.1 ∧ (vget l).2.1 ≤ l.length := by
  cases l with
  | nil => simp [vget] at h
  | cons c r =>
    unfold vget at h ⊢
    by_cases h1 : (c :: r).length < vmany c
    · simp only [h1, if_true] at h; exact absurd h (by decide)
    · simp only [h1, if_false]
      have hc : c.toNat / 64 < 4 := by have := c.toNat_lt; omega
      have hm : vmany c = 1 ∨ vmany c = 2 ∨ vmany c = 4 ∨ vmany c = 8 := by
        unfold vmany
        have : c.toNat / 64 = 0 ∨ c.toNat / 64 = 1 ∨ c.toNat / 64 = 2 ∨ c.toNat / 64 = 3 := by omega
        rcases this with e | e | e | e <;> rw [e] <;> simp
      have hb := beN_bd ((c.toNat : Int) % 64) (r.take (vmany c - 1)) (by omega) 64 (by omega)
      have hl : (r.take (vmany c - 1)).length ≤ 7 := by rw [List.length_take]; omega
      have hp : (64 : Int) * 256 ^ (r.take (vmany c - 1)).length ≤ 4611686018427387904 := by
        have : (r.take (vmany c - 1)).length = 0 ∨ (r.take (vmany c - 1)).length = 1 ∨ (r.take (vmany c - 1)).length = 2 ∨ (r.take (vmany c - 1)).length = 3 ∨ (r.take (vmany c - 1)).length = 4 ∨ (r.take (vmany c - 1)).length = 5 ∨ (r.take (vmany c - 1)).length = 6 ∨ (r.take (vmany c - 1)).length = 7 := by omega
        rcases this with e | e | e | e | e | e | e | e <;> rw [e] <;> decide
      have hlen : (c :: r).length = r.length + 1 := rfl
      exact ⟨hb.1, by omega, by omega, by omega⟩
/-- A part: its kind, its data, what is behind. -/
def lrd (l : List UInt8) : Option (Int × List UInt8 × List UInt8) :=
  if (vget l).2.2 ≠ 0 then none
  else if (vget (l.drop (vget l).2.1.toNat)).2.2 ≠ 0 ∨ (l.length : Int) - (vget l).2.1 - (vget (l.drop (vget l).2.1.toNat)).2.1 < (vget (l.drop (vget l).2.1.toNat)).1 then none
  else some ((vget l).1, (l.drop ((vget l).2.1.toNat + (vget (l.drop (vget l).2.1.toNat)).2.1.toNat)).take (vget (l.drop (vget l).2.1.toNat)).1.toNat, l.drop ((vget l).2.1.toNat + (vget (l.drop (vget l).2.1.toNat)).2.1.toNat + (vget (l.drop (vget l).2.1.toNat)).1.toNat))

structure Lr (w : World) (p : Nat) (A : Option Addr) (n c : Nat) (l : List UInt8) : Prop where
  row : w.heap[p]? = some (.cells #[.slice A n c] 56 (0, 0))
  rd : Rd w A (bv l)
  len : l.length = n
  cap : n ≤ c
  capx : c ≤ 9223372036854775807
  far : ∀ a, A = some a → a.block ≠ p
  lt : ∀ a, A = some a → a.block < w.heap.size
  small : n ≤ 1000000
section
variable {w w' : World} {p : Nat} {A : Option Addr} {n c : Nat} {l : List UInt8}
theorem Lr.plt (h : Lr w p A n c l) : p < w.heap.size := heap_lt h.row
theorem Lr.fr {S : Nat → Prop} (h : Lr w p A n c l) (F : Fr S w w') (hp : ¬ S p) (hA : ∀ a, A = some a → ¬ S a.block) : Lr w' p A n c l :=
  ⟨heap_fr h.row F hp, h.rd.fr F (fun _ a ha => hA a ha), h.len, h.cap, h.capx, h.far, (fun a ha => by have := h.lt a ha; have := F.size; omega), h.small⟩
theorem Lr.below (h : Lr w p A n c l) (b : Below w.heap.size w w') : Lr w' p A n c l := h.fr (Fr.of_below b NoS) (fun x => x) (fun _ _ x => x)
theorem Lr.set (h : Lr w p A n c l) (X : Option Addr) (m : Nat) (hm : m ≤ n) (hc : CutOf A X m n c) : Lr (w.setCell ⟨p, 0, none⟩ (.slice X (n - m) (c - m))) p X (n - m) (c - m) (l.drop m) := by
  have hl := h.len
  have hcap := h.cap
  have hcx := h.capx
  have hsm := h.small
  refine ⟨heap_setCell_same w p 0 _ _ _ h.row, ?_, by rw [List.length_drop, hl], by omega, by omega, fun a ha => ?_, fun a ha => ?_, by omega⟩
  · have := hc.bytes' h.rd hl h.cap
    exact this.fr ((Fr.refl (fun k => k = p) w).setCell (p := ⟨p, 0, none⟩) (fun _ => rfl) _) (fun _ a ha e => by
      obtain ⟨a0, h1, h2⟩ := hc.blk a ha
      exact h.far a0 h1 (h2.trans e))
  · obtain ⟨a0, h1, h2⟩ := hc.blk a ha
    rw [← h2]; exact h.far a0 h1
  · obtain ⟨a0, h1, h2⟩ := hc.blk a ha
    have := h.lt a0 h1
    rw [← h2]
    simpa [World.setCell] using this
/-- What part hands back. -/
def RetPart (w : World) (p : Nat) (A : Option Addr) (l : List UInt8) (e : Ending) (w' : World) : Prop :=
  (lrd l = none ∧ e = .returned (.tuple #[.int .u64 0, .slice none 0 0, .bool false]) ∧ w = w') ∨
  ∃ k d r X dc A' n' c', lrd l = some (k, d, r) ∧ e = .returned (.tuple #[.int .u64 k, .slice X d.length dc, .bool true]) ∧ Rd w' X (bv d) ∧ d.length ≤ dc ∧ dc ≤ 9223372036854775807 ∧ (∀ a, X = some a → ∃ a0, A = some a0 ∧ a0.block = a.block) ∧ (∀ a, A' = some a → ∃ a0, A = some a0 ∧ a0.block = a.block) ∧ ((X = none → A = none) ∧ (A' = none → A = none)) ∧ Lr w' p A' n' c' r ∧ Fr (fun k => k = p) w w'
theorem lrd_len {k : Int} {d r : List UInt8} (h : lrd l = some (k, d, r)) : d.length + r.length + 2 ≤ l.length := by
  unfold lrd at h
  split at h
  · cases h
  · rename_i h1
    split at h
    · cases h
    · rename_i h2
      rw [not_or] at h2
      have b1 := vget_bd l (by simpa using h1)
      have b2 := vget_bd _ (by simpa using h2.1)
      have h3 := h2.2
      injection h with h
      injection h with _ h
      injection h with e1 e2
      rw [List.length_drop] at b2
      have e3 := congrArg List.length e1
      have e4 := congrArg List.length e2
      rw [List.length_take, List.length_drop] at e3
      rw [List.length_drop] at e4
      omega

set_option maxRecDepth 100000 in
set_option maxHeartbeats 8000000 in
theorem ltpart_rd (h : Lr w p A n c l) : Calls Tryd.prog 25 #[.pointer (some ⟨p, 0, none⟩)] w (RetPart w p A l) := by
  have c0 := wrote_cell h.row 0 _ rfl
  have f0 := frozen_of_row w p 0 _ _ h.row
  have hn := h.len
  have hcap := h.cap
  have hcx := h.capx
  have hsm := h.small
  have G1 := Lib.hid (get_any l A c w h.rd (by omega) (by omega) hcx)
  rw [hn] at G1
  obtain ⟨k, hk⟩ : ∃ x, (vget l).1 = x := ⟨_, rfl⟩
  obtain ⟨mi, hmi⟩ : ∃ x, (vget l).2.1 = x := ⟨_, rfl⟩
  obtain ⟨e1, he1⟩ : ∃ x, (vget l).2.2 = x := ⟨_, rfl⟩
  have bd1 := vget_bd l
  unfold vtup at G1
  rw [hk, hmi, he1] at G1
  rw [hk, hmi, he1, hn] at bd1
  obtain ⟨V, hV⟩ : ∃ x, lrd l = x := ⟨_, rfl⟩
  have hVe : lrd l = if e1 ≠ 0 then none
      else if (vget (l.drop mi.toNat)).2.2 ≠ 0 ∨ (n : Int) - mi - (vget (l.drop mi.toNat)).2.1 < (vget (l.drop mi.toNat)).1 then none
      else some (k, (l.drop (mi.toNat + (vget (l.drop mi.toNat)).2.1.toNat)).take (vget (l.drop mi.toNat)).1.toNat, l.drop (mi.toNat + (vget (l.drop mi.toNat)).2.1.toNat + (vget (l.drop mi.toNat)).1.toNat)) := by
    unfold lrd; rw [he1, hmi, hn, hk]
  clear hk hmi he1
  by_cases h1 : e1 = 0
  · have d1 : (e1 != 0) = false := by rw [h1]; rfl
    have hb := bd1 h1
    rw [if_neg (by rw [h1]; decide)] at hVe
    obtain ⟨m, rfl⟩ := Int.eq_ofNat_of_zero_le (show 0 ≤ mi by omega)
    rw [Int.toNat_natCast] at hVe
    obtain ⟨X1, hX1, hc1⟩ := cut_l (P := Tryd.prog) Tryd.underlying23 infoB A n c m (by omega) hcap
    have G2 := Lib.hid (get_any (l.drop m) X1 (c - m) w (hc1.bytes' h.rd hn hcap) (by rw [List.length_drop]; omega) (by rw [List.length_drop]; omega) (by omega))
    have hln2 : (l.drop m).length = n - m := by rw [List.length_drop, hn]
    rw [hln2] at G2
    have bd2 := vget_bd (l.drop m)
    obtain ⟨L, hL⟩ : ∃ x, (vget (l.drop m)).1 = x := ⟨_, rfl⟩
    obtain ⟨qi, hqi⟩ : ∃ x, (vget (l.drop m)).2.1 = x := ⟨_, rfl⟩
    obtain ⟨e2, he2⟩ : ∃ x, (vget (l.drop m)).2.2 = x := ⟨_, rfl⟩
    unfold vtup at G2
    rw [hL, hqi, he2] at G2
    rw [hL, hqi, he2, hln2] at bd2
    rw [hL, hqi, he2] at hVe
    clear hL hqi he2 hc1 hln2
    subst h1
    by_cases h2 : e2 = 0
    · have d2 : (e2 != 0) = false := by rw [h2]; rfl
      have hb2 := bd2 h2
      obtain ⟨q, rfl⟩ := Int.eq_ofNat_of_zero_le (show 0 ≤ qi by omega)
      obtain ⟨dl, rfl⟩ := Int.eq_ofNat_of_zero_le (show 0 ≤ L by omega)
      rw [Int.toNat_natCast, Int.toNat_natCast] at hVe
      obtain ⟨R, hR⟩ : ∃ R : Nat, R = n - m - q := ⟨_, rfl⟩
      have hw1 : IntKind.i64.wrap ((n : Int) - (m : Int)) = ((n - m : Nat) : Int) := by rw [IntKind.wrap_i64]; omega
      have hw2 : IntKind.i64.wrap (((n - m : Nat) : Int) - (q : Int)) = (R : Int) := by rw [IntKind.wrap_i64]; omega
      have hw3 : IntKind.u64.wrap (R : Int) = (R : Int) := by rw [IntKind.wrap_u64]; omega
      subst h2
      by_cases h3 : R < dl
      · have d3 : decide ((R : Int) < (dl : Int)) = true := decide_eq_true (by omega)
        have d3n : decide (R < dl) = true := decide_eq_true h3
        rw [if_pos (.inr (by omega))] at hVe
        replace hVe := Lib.hid hVe
        clear h hV bd1 bd2 hb hb2 h3 hR hn hcap hcx hsm
        go_enter Tryd.func25, Tryd.ntmps25
        go_wp2_with fail
        refine G1.out.mono ?_
        rintro e w' ⟨rfl, rfl⟩
        clear G1
        go_wp2_with fail
        refine G2.out.mono ?_
        rintro e w' ⟨rfl, rfl⟩
        clear G2
        go_wp2_with fail
        go_ret3
        exact .inl ⟨hVe.out, rfl, rfl⟩
      · have d3 : decide ((R : Int) < (dl : Int)) = false := decide_eq_false (by omega)
        have d3n : decide (R < dl) = false := decide_eq_false h3
        rw [if_neg (by rw [not_or]; exact ⟨by decide, by omega⟩)] at hVe
        obtain ⟨S, hS⟩ : ∃ S : Nat, S = m + q := ⟨_, rfl⟩
        obtain ⟨T, hT⟩ : ∃ T : Nat, T = S + dl := ⟨_, rfl⟩
        rw [← hS, ← hT] at hVe
        have hw4 : IntKind.i64.wrap ((m : Int) + (q : Int)) = (S : Int) := by rw [IntKind.wrap_i64]; omega
        have hw5 : IntKind.i64.wrap (dl : Int) = (dl : Int) := by rw [IntKind.wrap_i64]; omega
        have hw6 : IntKind.i64.wrap ((S : Int) + (dl : Int)) = (T : Int) := by rw [IntKind.wrap_i64]; omega
        obtain ⟨X2, hX2, hc2⟩ := cut_lh (P := Tryd.prog) Tryd.underlying23 infoB A n c S T (by omega) (by omega)
        obtain ⟨X3, hX3, hc3⟩ := cut_l (P := Tryd.prog) Tryd.underlying23 infoB A n c T (by omega) hcap
        have hL3 := Lib.hid (h.set X3 T (by omega) hc3)
        have hR2 : Rd w X2 (bv ((l.drop S).take dl)) := by
          have := hc2.bytes h.rd (by omega) (by omega)
          rwa [show T - S = dl from by omega] at this
        have hdl : ((l.drop S).take dl).length = dl := by rw [List.length_take, List.length_drop]; omega
        have hTS : T - S = dl := by omega
        rw [hTS] at hX2
        have hF : Hid (∀ W, W = w.setCell ⟨p, 0, none⟩ (.slice X3 (n - T) (c - T)) → RetPart w p A l (.returned (.tuple #[.int .u64 k, .slice X2 dl (c - S), .bool true])) W) := Lib.hid (by
          rintro W rfl
          have F1 : Fr (fun k => k = p) w (w.setCell ⟨p, 0, none⟩ (.slice X3 (n - T) (c - T))) := (Fr.refl (fun k => k = p) w).setCell (p := ⟨p, 0, none⟩) (fun _ => rfl) _
          exact .inr ⟨k, _, _, X2, c - S, X3, n - T, c - T, hVe, by rw [hdl], hR2.fr F1 (fun _ a ha e => by
            obtain ⟨a0, h1, h2⟩ := hc2.blk a ha
            exact h.far a0 h1 (h2.trans e)), by rw [hdl]; omega, by omega, hc2.blk, hc3.blk, ⟨hc2.nl, hc3.nl⟩, hL3.out, F1⟩)
        clear h hV bd1 bd2 hb hb2 h3 hL3 hR2 hdl hc2 hc3 hVe hTS hR hS hT hn hcap hcx hsm
        go_enter Tryd.func25, Tryd.ntmps25
        go_wp2_with fail
        refine G1.out.mono ?_
        rintro e w' ⟨rfl, rfl⟩
        clear G1
        go_wp2_with fail
        refine G2.out.mono ?_
        rintro e w' ⟨rfl, rfl⟩
        clear G2
        go_wp2_with fail
        go_ret3
        exact hF.out _ rfl
    · have d2 : (e2 != 0) = true := by simpa using h2
      rw [if_pos (.inl h2)] at hVe
      replace hVe := Lib.hid hVe
      replace h2 := Lib.hid h2
      clear h hV bd1 bd2 hb hn hcap hcx hsm
      go_enter Tryd.func25, Tryd.ntmps25
      go_wp2_with fail
      refine G1.out.mono ?_
      rintro e w' ⟨rfl, rfl⟩
      clear G1
      go_wp2_with fail
      refine G2.out.mono ?_
      rintro e w' ⟨rfl, rfl⟩
      clear G2
      go_wp2_with fail
      go_ret3
      exact .inl ⟨hVe.out, rfl, rfl⟩
  · have d1 : (e1 != 0) = true := by simpa using h1
    rw [if_pos h1] at hVe
    replace hVe := Lib.hid hVe
    replace h1 := Lib.hid h1
    clear h hV bd1 hn hcap hcx hsm
    go_enter Tryd.func25, Tryd.ntmps25
    go_wp2_with fail
    refine G1.out.mono ?_
    rintro e w' ⟨rfl, rfl⟩
    clear G1
    go_wp2_with fail
    go_ret3
    exact .inl ⟨hVe.out, rfl, rfl⟩
end
end Go.Proofs.YtdldipkbknhhoaaDoor

/- letter: is there a byte that is not zero? -/
namespace Go.Proofs.YtdldipkbknhhoaaDoor
open Go.RowKit

def nz (l : List UInt8) : Int := match l.findIdx? (fun x => decide (x ≠ 0)) with | some k => k | none => -1
theorem nz_any (l : List UInt8) : decide (0 ≤ nz l) = l.any (fun x => decide (x ≠ 0)) := by
  unfold nz
  rcases h : l.findIdx? (fun x => decide (x ≠ 0)) with _ | k
  · rw [List.findIdx?_eq_none_iff] at h
    have : l.any (fun x => decide (x ≠ 0)) = false := by
      rw [← Bool.not_eq_true, List.any_eq_true]
      rintro ⟨x, hx, hq⟩
      rw [h x hx] at hq; cases hq
    rw [this]; rfl
  · obtain ⟨hk, hr, _⟩ := List.findIdx?_eq_some_iff_getElem.1 h
    rw [List.any_eq_true.2 ⟨l[k], List.getElem_mem hk, hr⟩]
    exact decide_eq_true (Int.natCast_nonneg k)
theorem nz_hit (l : List UInt8) (k : Nat) (x : UInt8) (hx : l[k]? = some x) (hq : decide (x ≠ 0) = true) (h : ∀ j, j < k → ∀ y, l[j]? = some y → decide (y ≠ 0) = false) : nz l = k := by
  unfold nz
  obtain ⟨hk, e⟩ := List.getElem?_eq_some_iff.1 hx
  have : l.findIdx? (fun x => decide (x ≠ 0)) = some k := List.findIdx?_eq_some_iff_getElem.2 ⟨hk, by rw [e]; exact hq, fun j hj => by
    have := h j hj l[j] (List.getElem?_eq_getElem (by omega))
    rw [this]; decide⟩
  rw [this]
theorem nz_miss (l : List UInt8) (h : ∀ j, j < l.length → ∀ y, l[j]? = some y → decide (y ≠ 0) = false) : nz l = -1 := by
  unfold nz
  have : l.findIdx? (fun x => decide (x ≠ 0)) = none := List.findIdx?_eq_none_iff.2 fun x hx => by
    obtain ⟨j, hj, rfl⟩ := List.getElem_of_mem hx
    exact h j hj _ (List.getElem?_eq_getElem hj)
  rw [this]
theorem ent_get1 : Ent 28 := enters_of Tryd.func28 (by kernel_rfl) rfl
theorem get1_any (x : Int) (w : World) : Calls Tryd.prog 28 #[.int .u8 x] w fun e w' => e = .returned (.bool (x != 0)) ∧ w = w' := by
  go_enter Tryd.func28, Tryd.ntmps28
  go_wp2
  go_ret
  exact ⟨rfl, rfl⟩
set_option maxRecDepth 100000 in
set_option maxHeartbeats 4000000 in
theorem nzidx_any (l : List UInt8) (A : Option Addr) (n c : Nat) (w : World) (hn : l.length = n) (hr : Rd w A (bv l)) (hl : n ≤ 1000000) :
    Calls Tryd.prog 40 #[.slice A n c, .func (.func 28) #[] #[]] w fun e w' => e = .returned (.int .i64 (nz l)) ∧ w = w' := by
  have EG : ∀ (args : Array Value) (w : World), (callFunc 28 args).run Tryd.prog w = .ok (.enter 28 args) w := ent_get1
  obtain ⟨V, hV⟩ : ∃ V, nz l = V := ⟨_, rfl⟩
  have HH : Hid (∀ (k : Nat) (x : UInt8), l[k]? = some x → decide (x ≠ 0) = true → (∀ j, j < k → ∀ y, l[j]? = some y → decide (y ≠ 0) = false) → V = k) := Lib.hid (fun k x h1 h2 h3 => by rw [← hV]; exact nz_hit l k x h1 h2 h3)
  have HM : Hid ((∀ j, j < n → ∀ y, l[j]? = some y → decide (y ≠ 0) = false) → V = -1) := Lib.hid (fun h => by rw [← hV]; exact nz_miss l (by rw [hn]; exact h))
  rw [hV]
  clear hV
  replace hr := Lib.hid hr
  replace hn := Lib.hid hn
  go_enter Tryd.func40, Tryd.ntmps40
  go_wp2_with fail
  go_loop [5, 8] (fun _ i => ∃ k : Nat, k ≤ n ∧ i = .int .i64 k ∧ Hid (∀ j, j < k → ∀ y, l[j]? = some y → decide (y ≠ 0) = false)) (fun _ i => n - (intOf i).toNat)
  case atStart => exact ⟨0, by omega, rfl, Lib.hid (fun j hj => absurd hj (by omega))⟩
  case round =>
    obtain ⟨k, hk, rfl, HT⟩ := hrel
    by_cases hkl : k < n
    · rename_i aa
      have hkl2 : k < l.length := by rw [hn.out]; exact hkl
      obtain ⟨b, off, rfl, l0⟩ := hr.out.at_ (k := k) (by rw [bv_length]; exact hkl2)
      obtain ⟨x, hx⟩ : ∃ x, l[k] = x := ⟨_, rfl⟩
      have hx' : Hid (l[k]? = some x) := Lib.hid (by rw [List.getElem?_eq_getElem hkl2, hx])
      have l1 : w.cell? ⟨b, off + k, none⟩ = some (.int .u8 (x.toNat : Int)) := by
        rw [l0]; simp [bv, hx]
      clear l0 hx hkl2
      by_cases hz : x = 0
      · have hb : ((x.toNat : Int) != 0) = false := by rw [hz]; rfl
        have HT2 : Hid (∀ j, j < k + 1 → ∀ y, l[j]? = some y → decide (y ≠ 0) = false) := Lib.hid (fun j hj y hy => by
          rcases Nat.lt_or_ge j k with h | h
          · exact HT.out j h y hy
          · have : j = k := by omega
            subst this
            rw [hx'.out] at hy; injection hy with hy; rw [← hy, hz]; decide)
        replace hz := Lib.hid hz
        clear aa
        go_wp2_with fail
        refine (get1_any _ w).mono ?_
        rintro e w' ⟨rfl, rfl⟩
        go_wp2_with fail
        go_round
        case rel => exact ⟨k + 1, by omega, by go_num, HT2⟩
        case measure => simp [intOf]; omega
      · have hb : ((x.toNat : Int) != 0) = true := by
          rw [bne_iff_ne]
          intro e
          apply hz
          have h0 : x.toNat = 0 := by omega
          exact UInt8.toNat_inj.1 (by rw [h0]; rfl)
        have hVk : Hid (V = k) := Lib.hid (HH.out k x hx'.out (decide_eq_true hz) HT.out)
        replace hz := Lib.hid hz
        clear aa
        go_wp2_with fail
        refine (get1_any _ w).mono ?_
        rintro e w' ⟨rfl, rfl⟩
        go_wp2_with fail
        go_ret
        exact ⟨by rw [hVk.out]; rfl, rfl⟩
    · have hk' : k = n := by omega
      have hVk : Hid (V = -1) := Lib.hid (HM.out (by rw [← hk']; exact HT.out))
      go_wp2_with fail
      go_ret
      exact ⟨by rw [hVk.out]; rfl, rfl⟩
theorem nzcont_any (l : List UInt8) (A : Option Addr) (n c : Nat) (w : World) (hn : l.length = n) (hr : Rd w A (bv l)) (hl : n ≤ 1000000) :
    Calls Tryd.prog 27 #[.slice A n c, .func (.func 28) #[] #[]] w fun e w' => e = .returned (.bool (l.any (fun x => decide (x ≠ 0)))) ∧ w = w' := by
  have CI := Lib.hid (nzidx_any l A n c w hn hr hl)
  rw [← nz_any l]
  clear hr hn
  obtain ⟨V, hV⟩ : ∃ V, nz l = V := ⟨_, rfl⟩
  rw [hV] at CI ⊢
  clear hV
  go_enter Tryd.func27, Tryd.ntmps27
  go_wp2_with fail
  refine CI.out.mono ?_
  rintro e w' ⟨rfl, rfl⟩
  clear CI
  go_wp2_with fail
  go_ret
  exact ⟨rfl, rfl⟩
end Go.Proofs.YtdldipkbknhhoaaDoor

/- letter: Fits. -/
namespace Go.Proofs.YtdldipkbknhhoaaDoor
open Go.RowKit

def ltleast (fs : List Fd) (D : List UInt8) : Int :=
  if (ltplain fs D).2 ≠ 0 then 0 else if ltfits (ltplain fs D).1.length 256 then 256 else if ltfits (ltplain fs D).1.length 512 then 512 else if ltfits (ltplain fs D).1.length 1024 then 1024 else 0
theorem ix0 (w : World) : (Instr.index 52 (.agg #[.int .i64 256, .int .i64 512, .int .i64 1024]) (.int .i64 0)).run Tryd.prog w = .ok (.int .i64 256) w := by
  simp [Instr.index, go_sem, run_underlying Tryd.underlying52]
theorem ix1 (w : World) : (Instr.index 52 (.agg #[.int .i64 256, .int .i64 512, .int .i64 1024]) (.int .i64 1)).run Tryd.prog w = .ok (.int .i64 512) w := by
  simp [Instr.index, go_sem, run_underlying Tryd.underlying52]
theorem ix2 (w : World) : (Instr.index 52 (.agg #[.int .i64 256, .int .i64 512, .int .i64 1024]) (.int .i64 2)).run Tryd.prog w = .ok (.int .i64 1024) w := by
  simp [Instr.index, go_sem, run_underlying Tryd.underlying52]
set_option maxRecDepth 100000 in
set_option maxHeartbeats 8000000 in
theorem ltleast_any (fs : List Fd) (D : List UInt8) (A0 B : Option Addr) (m0 p0 m cm : Nat) (w : World) (hbk : BK w) (hn : fs.length = m0) (hm : D.length = m) (hr : Rd w A0 (fdv fs)) (hd : Rd w B (bv D)) (hl : m0 ≤ 1000000) (hm1 : m ≤ 900000) (hs : ∀ f ∈ fs, f.name.size ≤ 1000000 ∧ f.value.size ≤ 1000000) :
    Calls Tryd.prog 11 #[.agg #[.slice A0 m0 p0, .slice B m cm]] w fun e w' => e = .returned (.int .i64 (ltleast fs D)) ∧ Below w.heap.size w w' := by
  obtain ⟨P, hP⟩ : ∃ x, (ltplain fs D).1 = x := ⟨_, rfl⟩
  obtain ⟨F, hF⟩ : ∃ x, (ltplain fs D).2 = x := ⟨_, rfl⟩
  obtain ⟨pn, hpn⟩ : ∃ x, P.length = x := ⟨_, rfl⟩
  obtain ⟨V, hV⟩ : ∃ x, ltleast fs D = x := ⟨_, rfl⟩
  obtain ⟨f0, hf0⟩ : ∃ x, ltfits (pn : Int) 256 = x := ⟨_, rfl⟩
  obtain ⟨f1, hf1⟩ : ∃ x, ltfits (pn : Int) 512 = x := ⟨_, rfl⟩
  obtain ⟨f2, hf2⟩ : ∃ x, ltfits (pn : Int) 1024 = x := ⟨_, rfl⟩
  have CP : Hid (∀ W, Below w.heap.size w W → Calls Tryd.prog 21 #[.agg #[.slice A0 m0 p0, .slice B m cm]] W fun e w' => ∃ A' c', e = .returned (.tuple #[.slice A' pn c', .int .i64 F]) ∧ Below W.heap.size W w') := Lib.hid (fun W bl => by
    refine (ltplain_any fs D A0 B m0 p0 m cm W hn hm (hr.below bl) (hd.below bl) hl hm1 hs).mono ?_
    rintro e w' ⟨A', c', he, ho, hb⟩
    rw [hP, hF, hpn] at he
    exact ⟨A', c', he, hb⟩)
  have hVe : Hid (V = if F ≠ 0 then 0 else if f0 then 256 else if f1 then 512 else if f2 then 1024 else 0) := Lib.hid (by rw [← hV]; unfold ltleast; rw [hP, hF, hpn, hf0, hf1, hf2])
  have C0 : Hid (∀ W, Calls Tryd.prog 22 #[.int .i64 (pn : Int), .int .i64 256] W fun e w' => e = .returned (.bool f0) ∧ W = w') := Lib.hid (fun W => by rw [← hf0]; exact ltfits_any pn 256 W (by omega) (by omega))
  have C1 : Hid (∀ W, Calls Tryd.prog 22 #[.int .i64 (pn : Int), .int .i64 512] W fun e w' => e = .returned (.bool f1) ∧ W = w') := Lib.hid (fun W => by rw [← hf1]; exact ltfits_any pn 512 W (by omega) (by omega))
  have C2 : Hid (∀ W, Calls Tryd.prog 22 #[.int .i64 (pn : Int), .int .i64 1024] W fun e w' => e = .returned (.bool f2) ∧ W = w') := Lib.hid (fun W => by rw [← hf2]; exact ltfits_any pn 1024 W (by omega) (by omega))
  have HB : Hid (∀ W, Below w.heap.size w W → BK W) := Lib.hid (fun W b => hbk.below b)
  rw [hV]
  clear hP hF hpn hV hf0 hf1 hf2 hbk hr hd hn hm hs
  have I0 := ix0
  have I1 := ix1
  have I2 := ix2
  go_enter Tryd.func11, Tryd.ntmps11
  go_wp2_with fail
  obtain ⟨wa, hwa⟩ : ∃ wa, w.alloc (.cells #[.slice A0 m0 p0, .slice B m cm] 25) = wa := ⟨_, rfl⟩
  have ba : Hid (Below w.heap.size w wa) := Lib.hid (by rw [← hwa]; exact (Below.refl _ w).alloc (Nat.le_refl _) _)
  rw [hwa]
  clear hwa
  refine (CP.out _ ba.out).mono ?_
  rintro e w1 ⟨A1, c1, rfl, b1⟩
  have B1 : Hid (Below w.heap.size w w1) := Lib.hid (ba.out.trans (b1.mono ba.out.size))
  obtain ⟨g0, g1, g2⟩ := HB.out _ B1.out
  clear CP b1 ba HB
  by_cases hF : F = 0
  · have hV2 : Hid (V = if f0 then 256 else if f1 then 512 else if f2 then 1024 else 0) := Lib.hid (by rw [hVe.out, if_neg (by rw [hF]; decide)])
    have bF : (F == 0) = true := by rw [hF]; rfl
    subst hF
    clear hVe
    go_wp2_with fail
    go_loop [13, 6] (fun j _ => ∃ k : Nat, k ≤ 3 ∧ j = .int .i64 k ∧ Hid ((0 < k → f0 = false) ∧ (1 < k → f1 = false) ∧ (2 < k → f2 = false))) (fun j _ => 3 - (intOf j).toNat)
    case atStart => exact ⟨0, by omega, rfl, Lib.hid ⟨fun h => absurd h (by omega), fun h => absurd h (by omega), fun h => absurd h (by omega)⟩⟩
    case round =>
      obtain ⟨k, hk, rfl, HK⟩ := hrel
      rcases k with _ | _ | _ | _ | k
      · go_wp2_with fail
        refine (C0.out _).mono ?_
        rintro e w' ⟨rfl, rfl⟩
        cases f0 with
        | true =>
          have hh : Hid (V = 256) := Lib.hid (by rw [hV2.out]; rfl)
          go_wp2_with fail
          go_ret
          exact ⟨by rw [hh.out]; rfl, B1.out⟩
        | false =>
          go_wp2_with fail
          go_round
          case rel => exact ⟨1, by omega, by go_num, Lib.hid ⟨fun _ => by first | rfl | trivial, fun h => absurd h (by omega), fun h => absurd h (by omega)⟩⟩
          case measure => simp [intOf]
      · have k0 : f0 = false := HK.out.1 (by omega)
        subst k0
        go_wp2_with fail
        refine (C1.out _).mono ?_
        rintro e w' ⟨rfl, rfl⟩
        cases f1 with
        | true =>
          have hh : Hid (V = 512) := Lib.hid (by rw [hV2.out]; rfl)
          go_wp2_with fail
          go_ret
          exact ⟨by rw [hh.out]; rfl, B1.out⟩
        | false =>
          go_wp2_with fail
          go_round
          case rel => exact ⟨2, by omega, by go_num, Lib.hid ⟨fun _ => by first | rfl | trivial, fun _ => by first | rfl | trivial, fun h => absurd h (by omega)⟩⟩
          case measure => simp [intOf]
      · have k0 : f0 = false := HK.out.1 (by omega)
        have k1 : f1 = false := HK.out.2.1 (by omega)
        subst k0 k1
        go_wp2_with fail
        refine (C2.out _).mono ?_
        rintro e w' ⟨rfl, rfl⟩
        cases f2 with
        | true =>
          have hh : Hid (V = 1024) := Lib.hid (by rw [hV2.out]; rfl)
          go_wp2_with fail
          go_ret
          exact ⟨by rw [hh.out]; rfl, B1.out⟩
        | false =>
          go_wp2_with fail
          go_round
          case rel => exact ⟨3, by omega, by go_num, Lib.hid ⟨fun _ => by first | rfl | trivial, fun _ => by first | rfl | trivial, fun _ => by first | rfl | trivial⟩⟩
          case measure => simp [intOf]
      · have k0 : f0 = false := HK.out.1 (by omega)
        have k1 : f1 = false := HK.out.2.1 (by omega)
        have k2 : f2 = false := HK.out.2.2 (by omega)
        subst k0 k1 k2
        have hh : Hid (V = 0) := Lib.hid (by rw [hV2.out]; rfl)
        go_wp2_with fail
        go_ret
        exact ⟨by rw [hh.out]; rfl, B1.out⟩
      · exact absurd hk (by omega)
  · have hV2 : Hid (V = 0) := Lib.hid (by rw [hVe.out, if_pos hF])
    have bF : (F == 0) = false := by simpa using hF
    replace hF := Lib.hid hF
    clear hVe
    go_wp2_with fail
    go_loop [13, 6] (fun j _ => ∃ k : Nat, k ≤ 3 ∧ j = .int .i64 k) (fun j _ => 3 - (intOf j).toNat)
    case atStart => exact ⟨0, by omega, rfl⟩
    case round =>
      obtain ⟨k, hk, rfl⟩ := hrel
      rcases k with _ | _ | _ | _ | k
      · go_wp2_with fail
        go_round
        case rel => exact ⟨1, by omega, by go_num⟩
        case measure => simp [intOf]
      · go_wp2_with fail
        go_round
        case rel => exact ⟨2, by omega, by go_num⟩
        case measure => simp [intOf]
      · go_wp2_with fail
        go_round
        case rel => exact ⟨3, by omega, by go_num⟩
        case measure => simp [intOf]
      · go_wp2_with fail
        go_ret
        exact ⟨by rw [hV2.out]; rfl, B1.out⟩
      · exact absurd hk (by omega)
end Go.Proofs.YtdldipkbknhhoaaDoor

/- slices.Clone of bytes: a new slice with the same bytes; nothing old turns. -/
namespace Go.Proofs.YtdldipkbknhhoaaDoor
open Go.RowKit

set_option maxHeartbeats 400000 in
theorem clone_any (l : List UInt8) (A : Option Addr) (c : Nat) (w : World) (hr : Rd w A (bv l)) (hA : A = none → c = 0) (hl : l.length ≤ 140737488355328) :
    Calls Tryd.prog 26 #[.slice A l.length c] w (RetS 5 w l.length (bv l)) := by
  have hnil := fun (W : World) (B : Option Addr) (m k : Nat) => Lib.run_eql_slice_nil (P := Tryd.prog) W 23 5 B m k 0 0 Tryd.underlying23
  cases A with
  | none =>
    have hl0 : l = [] := by
      rcases l with _ | ⟨x, r⟩
      · rfl
      · obtain ⟨_, _, h, _⟩ := hr (by simp)
        cases h
    subst hl0
    have hc := hA rfl
    subst hc
    go_enter Tryd.func26, Tryd.ntmps26
    go_wp2
    go_ret
    exact ⟨none, 0, rfl, World.ownsRow_nil _ _ _ _, Below.refl _ _⟩
  | some a =>
    go_enter Tryd.func26, Tryd.ntmps26
    go_wp2_with (at_builtin; refine Hid.out ?_)
    refine Lib.hid ?_
    refine wpList_app _ rfl _ _ 23 (by rfl) w.heap.size 5 (.int .u8 0) 1 infoB Tryd.underlying23 rfl (.slice (some ⟨w.heap.size, 0, none⟩) 0 0) 0 [] (by rfl) (World.ownsRow_lit w #[] 0 (Nat.le_refl _) (by simp) rfl) (some a) l.length c (bv l) (by rfl) (by simp) (hr.alloc _) (bv_one l) (by unfold maxLen; omega) (by omega) (by simp) ?_
    intro A1 c1 w1 hown hgrow _
    have F := ((Fr.refl NoS w).alloc _).grown hgrow (fun k hk hlt => by simp [Value.ownBlock] at hk; omega)
    simp only [Nat.zero_add, List.nil_append] at hown ⊢
    go_wp2
    go_ret
    exact ⟨A1, c1, rfl, hown, Fr.below F⟩
theorem clone_to (l : List UInt8) (n : Nat) (A : Option Addr) (c : Nat) (w : World) (hn : l.length = n) (hr : Rd w A (bv l)) (hA : A = none → c = 0) (hl : n ≤ 140737488355328) :
    Calls Tryd.prog 26 #[.slice A n c] w (RetS 5 w n (bv l)) := by
  subst hn
  exact clone_any l A c w hr hA hl
end Go.Proofs.YtdldipkbknhhoaaDoor

/- letter: what Get tells: in plain Lean; the message's block. (The walk of Get is not here yet.) -/
namespace Go.Proofs.YtdldipkbknhhoaaDoor
open Go.RowKit

/-- The parts behind the list: the body, if all is well. -/
def lgo : Nat → Nat → List UInt8 → List UInt8 → Option (List UInt8)
  | _, _, [], bod => some bod
  | 0, _, _ :: _, bod => some bod
  | f + 1, k, x :: l, bod => match lrd (x :: l) with
    | none => none
    | some (kind, d, r) => if kind = 0 ∧ k = 0 then lgo f (k + 1) r d else if kind ≠ 33 ∨ d.any (fun x => decide (x ≠ 0)) = true then none else lgo f (k + 1) r bod
def lget (l : List UInt8) : (List Fd × List UInt8) × Int :=
  if bok l.length = false then (([], []), 13)
  else match lrd l with
    | none => (([], []), 5)
    | some (kind, list, r) => if kind ≠ 1 then (([], []), 5) else match lgo 1024 0 r [] with
      | none => (([], []), 5)
      | some bod => if (fget list).2 ≠ 0 then (([], []), (fget list).2) else (((fget list).1, bod), 0)
theorem lgo_nil (f k : Nat) (bod : List UInt8) : lgo f k [] bod = some bod := by cases f <;> rfl
theorem lgo_none {f k : Nat} {l bod : List UInt8} (h0 : l ≠ []) (h : lrd l = none) : lgo (f + 1) k l bod = none := by
  cases l with
  | nil => exact absurd rfl h0
  | cons x l => unfold lgo; rw [h]
theorem lgo_some {f k : Nat} {l bod d r : List UInt8} {kind : Int} (h0 : l ≠ []) (h : lrd l = some (kind, d, r)) :
    lgo (f + 1) k l bod = if kind = 0 ∧ k = 0 then lgo f (k + 1) r d else if kind ≠ 33 ∨ d.any (fun x => decide (x ≠ 0)) = true then none else lgo f (k + 1) r bod := by
  cases l with
  | nil => exact absurd rfl h0
  | cons x l => conv => { lhs; unfold lgo }; rw [h]
/-- What Get hands back. -/
def RetM (w : World) (x : (List Fd × List UInt8) × Int) (e : Ending) (w' : World) : Prop :=
  ∃ Af cf Ab cb, e = .returned (.tuple #[.agg #[.slice Af x.1.1.length cf, .slice Ab x.1.2.length cb], .int .i64 x.2]) ∧
    w'.ownsRow w.heap.size 47 2 (.slice Af x.1.1.length cf) x.1.1.length (fdv x.1.1) ∧ w'.ownsRow w.heap.size 5 1 (.slice Ab x.1.2.length cb) x.1.2.length (bv x.1.2) ∧ Below w.heap.size w w'
theorem res_ct {P : Program} {fn : Func} {p t1 : Tmp} {s : TypeId} (h : fn.results = #[.cell p s, .tmp t1]) (tmps : Array Value) (w : World) (a : Addr) (x : Value) {u1 : Value}
    (ha : tmps.getD p undef = .pointer (some a)) (hx : (loadVar s a).run P w = .ok x w) (h1 : tmps.getD t1 undef = u1) : (results fn tmps).run P w = .ok (.tuple #[x, u1]) w := by
  subst h1
  simp only [Array.getD_eq_getD_getElem?] at ha
  simp only [results, h]
  simp [Sem.run_bind, Result.andThen, ha, asAddr, hx]
theorem loadM {w : World} {g : Nat} {a b : Value} (h : w.heap[g]? = some (.cells #[a, b] 25 (0, 0))) (ha : ∃ A n c, a = .slice A n c) (hb : ∃ A n c, b = .slice A n c) : (loadVar 25 ⟨g, 0, none⟩).run Tryd.prog w = .ok (.agg #[a, b]) w := by
  obtain ⟨A, n, c, rfl⟩ := ha
  obtain ⟨B, m, d, rfl⟩ := hb
  have k0 := wrote_cell h 0 _ rfl
  have k1 := wrote_cell h 1 _ rfl
  simp [go_sem, k0, k1]
end Go.Proofs.YtdldipkbknhhoaaDoor

/- letter: Get. -/
namespace Go.Proofs.YtdldipkbknhhoaaDoor
open Go.RowKit

theorem Rd.back {w w' : World} {X : Option Addr} {xs : List Value} (h : Rd w' X xs) (b : Below w.heap.size w w') (hX : ∀ a, X = some a → a.block < w.heap.size) : Rd w X xs := fun hn => by
  obtain ⟨bb, off, e, hc⟩ := h hn
  have hlt : bb < w.heap.size := hX ⟨bb, off, none⟩ e
  refine ⟨bb, off, e, fun k u hu => ?_⟩
  rw [← b.cell (p := ⟨bb, off + k, none⟩) hlt]
  exact hc k u hu
/-- Get between two parts. -/
structure LG (w : World) (g q p : Nat) (W : World) (Ab : Option Addr) (nb cb : Nat) (bod : List UInt8) (A : Option Addr) (n c : Nat) (rest : List UInt8) : Prop where
  res : W.heap[g]? = some (.cells #[.slice none 0 0, .slice none 0 0] 25 (0, 0))
  msg : W.heap[q]? = some (.cells #[.slice none 0 0, .slice Ab nb cb] 25 (0, 0))
  own : W.ownsRow w.heap.size 5 1 (.slice Ab nb cb) nb (bv bod)
  ln : bod.length = nb
  lr : Lr W p A n c rest
  bel : Below w.heap.size w W
  hg : w.heap.size = g
  hq : q = g + 1
  hp : p = q + 1
  ab : ∀ a, A = some a → a.block < w.heap.size
  an : A ≠ none
  np : ∀ k, (Value.slice Ab nb cb).ownBlock = some k → p < k
section
variable {w W W' : World} {g q p : Nat} {Ab : Option Addr} {nb cb : Nat} {bod : List UInt8} {A : Option Addr} {n c : Nat} {rest : List UInt8}
theorem LG.below (h : LG w g q p W Ab nb cb bod A n c rest) (b : Below W.heap.size W W') : LG w g q p W' Ab nb cb bod A n c rest :=
  ⟨heap_fr h.res (Fr.of_below b NoS) (fun x => x), heap_fr h.msg (Fr.of_below b NoS) (fun x => x), own_fr h.own (Fr.of_below b NoS) (fun _ _ x => x), h.ln, h.lr.below b, h.bel.trans (b.mono h.bel.size), h.hg, h.hq, h.hp, h.ab, h.an, h.np⟩
theorem LG.part {A' : Option Addr} {n' c' : Nat} {r : List UInt8} (h : LG w g q p W Ab nb cb bod A n c rest) (F : Fr (fun k => k = p) W W') (hL : Lr W' p A' n' c' r) (hA : ∀ a, A' = some a → ∃ a0, A = some a0 ∧ a0.block = a.block) (hn : A' = none → A = none) : LG w g q p W' Ab nb cb bod A' n' c' r :=
  ⟨heap_fr h.res F (fun e => by have := h.hp; have := h.hq; omega), heap_fr h.msg F (fun e => by have := h.hp; omega), own_fr h.own F (fun k hk e => by have := h.np k hk; omega), h.ln, hL, Fr.under h.bel h.bel.size F (fun k hk _ => by have := h.hp; have := h.hq; have := h.hg; omega), h.hg, h.hq, h.hp, fun a ha => by
    obtain ⟨a0, h1, h2⟩ := hA a ha
    rw [← h2]; exact h.ab a0 h1, fun e => h.an (hn e), h.np⟩
end
/-- The result's block behind a store of both cells. -/
theorem end0 {w W : World} {g : Nat} {a b : Value} (X : W.heap[g]? = some (.cells #[a, b] 25 (0, 0))) (hb : Below w.heap.size w W) (hg : w.heap.size = g) (u v : Value) :
    ((W.setCell ⟨g, 0, none⟩ u).setCell ⟨g, 1, none⟩ v).heap[g]? = some (.cells #[u, v] 25 (0, 0)) ∧ Fr (fun k => k = g) W ((W.setCell ⟨g, 0, none⟩ u).setCell ⟨g, 1, none⟩ v) ∧ Below w.heap.size w ((W.setCell ⟨g, 0, none⟩ u).setCell ⟨g, 1, none⟩ v) := by
  have F : Fr (fun k => k = g) W ((W.setCell ⟨g, 0, none⟩ u).setCell ⟨g, 1, none⟩ v) := ((Fr.refl (fun k => k = g) W).setCell (p := ⟨g, 0, none⟩) (fun _ => rfl) u).setCell (p := ⟨g, 1, none⟩) (fun _ => rfl) v
  exact ⟨heap_setCell_same _ g 1 _ _ v (heap_setCell_same W g 0 _ _ u X), F, Fr.under hb hb.size F (fun k hk _ => by omega)⟩
set_option maxRecDepth 100000 in
set_option maxHeartbeats 8000000 in
theorem ltget_any (l : List UInt8) (A : Option Addr) (n c : Nat) (w : World) (hbk : BK w) (hn : l.length = n) (hr : Rd w A (bv l)) (hc : n ≤ c) (hcc : c ≤ 9223372036854775807) (hl : n ≤ 1000000) :
    Calls Tryd.prog 14 #[.slice A n c] w (RetM w (lget l)) := by
  obtain ⟨v, hv⟩ : ∃ x, bok (n : Int) = x := ⟨_, rfl⟩
  have CB : Hid (∀ W, Below w.heap.size w W → Calls Tryd.prog 12 #[.int .i64 (n : Int)] W fun e w' => e = .returned (.bool v) ∧ W = w') := Lib.hid (fun W bl => by rw [← hv]; exact bucket_any n W (hbk.below bl))
  have HV : Hid (v = false → lget l = (([], []), 13)) := Lib.hid (fun h => by unfold lget; rw [hn, hv, if_pos h])
  have HV2 : Hid (v = true → lget l = match lrd l with
    | none => (([], []), 5)
    | some (kind, list, r) => if kind ≠ 1 then (([], []), 5) else match lgo 1024 0 r [] with
      | none => (([], []), 5)
      | some bod => if (fget list).2 ≠ 0 then (([], []), (fget list).2) else (((fget list).1, bod), 0)) := Lib.hid (fun h => by
    conv => { lhs; unfold lget }
    rw [hn, hv, if_neg (by rw [h]; decide)]
    all_goals rfl)
  have hvb : Hid (v = true → 256 ≤ n ∧ n ≤ 1024) := Lib.hid (fun h => by have := bok_bd (b := (n : Int)) (by rw [hv, h]); omega)
  replace hr := Lib.hid hr
  replace hn := Lib.hid hn
  clear hv hbk
  obtain ⟨g, hg⟩ : ∃ g, w.heap.size = g := ⟨_, rfl⟩
  obtain ⟨wa, hwa⟩ : ∃ wa, w.alloc (.cells #[.slice none 0 0, .slice none 0 0] 25) = wa := ⟨_, rfl⟩
  have X0 : Hid (wa.heap[g]? = some (.cells #[.slice none 0 0, .slice none 0 0] 25 (0, 0))) := Lib.hid (by rw [← hwa, ← hg]; exact heap_alloc_new w _)
  have ba : Hid (Below w.heap.size w wa) := Lib.hid (by rw [← hwa]; exact (Below.refl _ w).alloc (Nat.le_refl _) _)
  have hsz : Hid (wa.heap.size = g + 1) := Lib.hid (by rw [← hwa, ← hg]; simp)
  go_enter Tryd.func14, Tryd.ntmps14
  go_wp2_with fail
  try rw [hwa]
  try rw [hg]
  refine (CB.out _ ba.out).mono ?_
  rintro e w' ⟨rfl, rfl⟩
  clear CB hwa
  cases v with
  | false =>
    have hV := Lib.hid (HV.out (by first | rfl | trivial))
    clear HV HV2 hvb hr hn
    have y0 := wrote_cell X0.out 0 _ rfl
    have y1 := wrote_cell X0.out 1 _ rfl
    have f0 := frozen_of_row wa g 0 _ _ X0.out
    have f1 := frozen_of_row wa g 1 _ _ X0.out
    go_wp2_with fail
    obtain ⟨e1, _, e2⟩ := end0 X0.out ba.out hg (.slice none 0 0) (.slice none 0 0)
    refine bodyPost_ret (v := .tuple #[.agg #[.slice none 0 0, .slice none 0 0], .int .i64 13]) (res_ct rfl _ _ ⟨g, 0, none⟩ _ rfl (loadM e1 ⟨_, _, _, rfl⟩ ⟨_, _, _, rfl⟩) rfl) rfl ?_
    rw [hV.out]
    exact ⟨none, 0, none, 0, rfl, World.ownsRow_nil _ _ _ _, World.ownsRow_nil _ _ _ _, e2⟩
  | true =>
    obtain ⟨h256, h1024⟩ := hvb.out (by first | rfl | trivial)
    have HG := Lib.hid (HV2.out (by first | rfl | trivial))
    clear HV HV2 hvb
    obtain ⟨a, hA, hAb⟩ := hr.out.lt (by rw [bv_length, hn.out]; omega)
    subst hA
    go_wp2_with fail
    obtain ⟨q, hq⟩ : ∃ q, wa.heap.size = q := ⟨_, rfl⟩
    rw [hq]
    obtain ⟨wc, hwc⟩ : ∃ wc, (wa.alloc (.cells #[.slice none 0 0, .slice none 0 0] 25)).alloc (.cells #[.slice (some a) n c] 56) = wc := ⟨_, rfl⟩
    have H0 : Hid (LG w g q (q + 1) wc none 0 0 [] (some a) n c l) := Lib.hid (by
      have hs := hsz.out
      have b1 : Below w.heap.size w wc := by rw [← hwc]; exact (ba.out.alloc ba.out.size _).alloc (by have := ba.out.size; simp; omega) _
      have F1 : Fr NoS wa wc := by rw [← hwc]; exact ((Fr.refl NoS wa).alloc _).alloc _
      refine ⟨heap_fr X0.out F1 (fun x => x), ?_, World.ownsRow_nil _ _ _ _, rfl, ⟨?_, hr.out.below b1, hn.out, hc, hcc, ?_, ?_, hl⟩, b1, hg, by omega, rfl, ?_, by simp, fun k hk => by cases hk⟩
      · have h1 := heap_alloc_new wa (.cells #[.slice none 0 0, .slice none 0 0] 25)
        rw [hq] at h1
        rw [← hwc]
        exact heap_fr h1 ((Fr.refl NoS _).alloc _) (fun x => x)
      · have h1 := heap_alloc_new (wa.alloc (.cells #[.slice none 0 0, .slice none 0 0] 25)) (.cells #[.slice (some a) n c] 56)
        rw [show ∀ o, (wa.alloc o).heap.size = q + 1 from fun o => by simp [hq]] at h1
        rw [← hwc]; exact h1
      · intro a' ha; injection ha with ha; subst ha; omega
      · intro a' ha; injection ha with ha; subst ha; have := b1.size; omega
      · intro a' ha; injection ha with ha; subst ha; exact hAb)
    rw [hwc]
    clear hwc X0 ba
    replace hq := Lib.hid hq
    refine (ltpart_rd H0.out.lr).mono ?_
    rintro e w3 (⟨e1, rfl, rfl⟩ | ⟨k, d, r, X, dl, A', n', c', e1, rfl, rX, dl1, dl2, bX, bA, ⟨nX, nA⟩, L', F'⟩)
    · have hV : Hid (lget l = (([], []), 5)) := Lib.hid (by rw [HG.out, e1])
      have y0 := wrote_cell H0.out.res 0 _ rfl
      have y1 := wrote_cell H0.out.res 1 _ rfl
      have f0 := frozen_of_row wc g 0 _ _ H0.out.res
      have f1 := frozen_of_row wc g 1 _ _ H0.out.res
      clear HG hr hn e1
      go_wp2_with fail
      obtain ⟨e1, _, e2⟩ := end0 H0.out.res H0.out.bel hg (.slice none 0 0) (.slice none 0 0)
      refine bodyPost_ret (v := .tuple #[.agg #[.slice none 0 0, .slice none 0 0], .int .i64 5]) (res_ct rfl _ _ ⟨g, 0, none⟩ _ rfl (loadM e1 ⟨_, _, _, rfl⟩ ⟨_, _, _, rfl⟩) rfl) rfl ?_
      rw [hV.out]
      exact ⟨none, 0, none, 0, rfl, World.ownsRow_nil _ _ _ _, World.ownsRow_nil _ _ _ _, e2⟩
    · have M1 := Lib.hid (H0.out.part F' L' bA nA)
      have hXb : ∀ a', X = some a' → a'.block < w.heap.size := fun a' ha => by
        obtain ⟨a0, h1, h2⟩ := bX a' ha
        rw [← h2]; exact H0.out.ab a0 h1
      have RX := Lib.hid (rX.back M1.out.bel hXb)
      have hlen := lrd_len e1
      rw [hn.out] at hlen
      have hG2 := HG.out
      rw [e1] at hG2
      clear HG H0 rX F' L' bA nA nX bX e1 hXb
      by_cases hk1 : k = 1
      · have dk : (k != 1) = false := by rw [hk1]; rfl
        simp only [hk1, ne_eq, not_true_eq_false, if_false] at hG2
        replace hG2 := Lib.hid hG2
        subst hk1
        clear hr hn
        go_wp2_with fail
        obtain ⟨N, hN⟩ : ∃ N, r.length = N := ⟨_, rfl⟩
        rw [hN] at hlen
        go_loopw [9] (fun i wr => ∃ (kk : Nat) (Ab : Option Addr) (nb cb : Nat) (bod : List UInt8) (A2 : Option Addr) (n2 c2 : Nat) (rest : List UInt8), i = .int .i64 kk ∧ kk + n2 ≤ N ∧ Hid (LG w g q (q + 1) wr Ab nb cb bod A2 n2 c2 rest) ∧ Hid (lgo (1024 - kk) kk rest bod = lgo 1024 0 r [])) (fun i _ => 2000 - (intOf i).toNat)
        case atStart => exact ⟨0, none, 0, 0, [], A', n', c', r, rfl, by rw [← M1.out.lr.len]; omega, M1, Lib.hid rfl⟩
        case round =>
          clear M1
          obtain ⟨kk, Ab, nb, cb, bod, A2, n2, c2, rest, rfl, hkk, M, HL⟩ := hrel
          have x0 := wrote_cell M.out.lr.row 0 _ rfl
          by_cases h0 : n2 = 0
          · have d0 : decide ((0 : Int) < (n2 : Int)) = false := decide_eq_false (by omega)
            have d0n : decide (0 < n2) = false := decide_eq_false (by omega)
            have hr0 : rest = [] := List.eq_nil_of_length_eq_zero (by rw [M.out.lr.len]; exact h0)
            replace h0 := Lib.hid h0
            subst hr0
            obtain ⟨L, hL⟩ : ∃ L, (fget d).1 = L := ⟨_, rfl⟩
            obtain ⟨E, hE⟩ : ∃ E, (fget d).2 = E := ⟨_, rfl⟩
            have CF := Lib.hid (fget_any d X dl d.length wr rfl (RX.out.below M.out.bel) dl1 dl2 (by omega))
            unfold RetG at CF
            rw [hL, hE] at CF
            have hV0 : lget l = if E ≠ 0 then (([], []), E) else ((L, bod), 0) := by
              rw [hG2.out, ← HL.out, lgo_nil]
              show (if (fget d).2 ≠ 0 then (([], []), (fget d).2) else (((fget d).1, bod), 0)) = _
              rw [hL, hE]
            replace hV0 := Lib.hid hV0
            clear hL hE HL hG2
            go_wp2_with fail
            refine CF.out.mono ?_
            rintro e w4 ⟨Af, cf, rfl, o4, b4⟩
            clear CF
            have M2 := Lib.hid (M.out.below b4)
            by_cases hE0 : E = 0
            · subst hE0
              have hV : Hid (lget l = ((L, bod), 0)) := Lib.hid (by rw [hV0.out, if_neg (by decide)])
              clear hV0
              have bE : ((0 : Int) != 0) = false := rfl
              have y0 := wrote_cell M2.out.msg 0 _ rfl
              have f0 := frozen_of_row w4 q 0 _ _ M2.out.msg
              obtain ⟨w5, hw5⟩ : ∃ w5, w4.setCell ⟨q, 0, none⟩ (.slice Af L.length cf) = w5 := ⟨_, rfl⟩
              have h1 := M2.out.hg
              have h2 := M2.out.hq
              have h3 := M.out.lr.plt
              have h4 := M.out.bel.size
              have F : Fr (fun k => k = q) w4 w5 := by rw [← hw5]; exact (Fr.refl (fun k => k = q) w4).setCell (p := ⟨q, 0, none⟩) (fun _ => rfl) _
              have m5 : w5.heap[q]? = some (.cells #[.slice Af L.length cf, .slice Ab nb cb] 25 (0, 0)) := by rw [← hw5]; exact heap_setCell_same _ q 0 _ _ _ M2.out.msg
              have r5 := heap_fr M2.out.res F (fun e => by omega)
              have b5 : Below w.heap.size w w5 := Fr.under M2.out.bel M2.out.bel.size F (fun k hk _ => by omega)
              have of5 := own_fr (own_base (base2 := w.heap.size) o4 (fun k hk => by have := (o4.lt k hk).1; omega)) F (fun k hk e => by have := (o4.lt k hk).1; omega)
              have ob5 := own_fr M2.out.own F (fun k hk e => by have := M2.out.np k hk; omega)
              have z0 := wrote_cell m5 0 _ rfl
              have z1 := wrote_cell m5 1 _ rfl
              have x0' := wrote_cell r5 0 _ rfl
              have x1' := wrote_cell r5 1 _ rfl
              have k0 := frozen_of_row w5 g 0 _ _ r5
              have k1 := frozen_of_row w5 g 1 _ _ r5
              have EN := Lib.hid (end0 r5 b5 hg (.slice Af L.length cf) (.slice Ab nb cb))
              have hln := Lib.hid M2.out.ln
              have gA : Hid (∀ k, (Value.slice Af L.length cf).ownBlock = some k → k ≠ g) := Lib.hid (fun k hk => by have := (o4.lt k hk).1; omega)
              have gB : Hid (∀ k, (Value.slice Ab nb cb).ownBlock = some k → k ≠ g) := Lib.hid (fun k hk => by have := M2.out.np k hk; omega)
              replace of5 := Lib.hid of5
              replace ob5 := Lib.hid ob5
              clear F m5 r5 b5 M M2 o4 b4 h1 h2 h3 h4
              subst hw5
              go_wp2_with fail
              obtain ⟨e1, eF, e2⟩ := EN.out
              refine bodyPost_ret (v := .tuple #[.agg #[.slice Af L.length cf, .slice Ab nb cb], .int .i64 0]) (res_ct rfl _ _ ⟨g, 0, none⟩ _ rfl (loadM e1 ⟨_, _, _, rfl⟩ ⟨_, _, _, rfl⟩) rfl) rfl ?_
              rw [hV.out]
              have e3 := own_fr ob5.out eF (fun k hk e => gB.out k hk e)
              have hl9 := hln.out
              subst hl9
              exact ⟨Af, cf, Ab, cb, rfl, own_fr of5.out eF (fun k hk e => gA.out k hk e), e3, e2⟩
            · have hV : Hid (lget l = (([], []), E)) := Lib.hid (by rw [hV0.out, if_pos hE0])
              clear hV0
              have bE : (E != 0) = true := by simpa using hE0
              replace hE0 := Lib.hid hE0
              have y0 := wrote_cell M2.out.res 0 _ rfl
              have y1 := wrote_cell M2.out.res 1 _ rfl
              have f0 := frozen_of_row w4 g 0 _ _ M2.out.res
              have f1 := frozen_of_row w4 g 1 _ _ M2.out.res
              clear M x0 o4 b4
              go_wp2_with fail
              obtain ⟨e1, _, e2⟩ := end0 M2.out.res M2.out.bel hg (.slice none 0 0) (.slice none 0 0)
              refine bodyPost_ret (v := .tuple #[.agg #[.slice none 0 0, .slice none 0 0], .int .i64 E]) (res_ct rfl _ _ ⟨g, 0, none⟩ _ rfl (loadM e1 ⟨_, _, _, rfl⟩ ⟨_, _, _, rfl⟩) rfl) rfl ?_
              rw [hV.out]
              exact ⟨none, 0, none, 0, rfl, World.ownsRow_nil _ _ _ _, World.ownsRow_nil _ _ _ _, e2⟩
          · rename_i aa
            clear aa
            have d0 : decide ((0 : Int) < (n2 : Int)) = true := decide_eq_true (by omega)
            have d0n : decide (0 < n2) = true := decide_eq_true (by omega)
            have hne : Hid (rest ≠ []) := Lib.hid (fun e => by have := M.out.lr.len; rw [e] at this; exact h0 this.symm)
            obtain ⟨f, hf⟩ : ∃ f, 1024 - kk = f + 1 := ⟨1023 - kk, by omega⟩
            rw [hf] at HL
            go_wp2_with fail
            refine (ltpart_rd M.out.lr).mono ?_
            rintro e w4 (⟨e1, rfl, rfl⟩ | ⟨kind, d2, r2, X2, dc2, A3, n3, c3, e1, rfl, rX2, dm1, dm2, bX2, bA2, ⟨nX2, nA2⟩, L2, F2⟩)
            · have hV : Hid (lget l = (([], []), 5)) := Lib.hid (by rw [hG2.out, ← HL.out, lgo_none hne.out e1])
              have y0 := wrote_cell M.out.res 0 _ rfl
              have y1 := wrote_cell M.out.res 1 _ rfl
              have f0 := frozen_of_row wr g 0 _ _ M.out.res
              have f1 := frozen_of_row wr g 1 _ _ M.out.res
              clear hG2 HL x0 e1
              go_wp2_with fail
              obtain ⟨e1, _, e2⟩ := end0 M.out.res M.out.bel hg (.slice none 0 0) (.slice none 0 0)
              refine bodyPost_ret (v := .tuple #[.agg #[.slice none 0 0, .slice none 0 0], .int .i64 5]) (res_ct rfl _ _ ⟨g, 0, none⟩ _ rfl (loadM e1 ⟨_, _, _, rfl⟩ ⟨_, _, _, rfl⟩) rfl) rfl ?_
              rw [hV.out]
              exact ⟨none, 0, none, 0, rfl, World.ownsRow_nil _ _ _ _, World.ownsRow_nil _ _ _ _, e2⟩
            · have M2 := Lib.hid (M.out.part F2 L2 bA2 nA2)
              have hlen2 := lrd_len e1
              rw [M.out.lr.len] at hlen2
              have hl2 := L2.len
              have hXn : Hid (X2 ≠ none) := Lib.hid (fun e => M.out.an (nX2 e))
              have HL2 := HL.out
              rw [lgo_some hne.out e1] at HL2
              replace rX2 := Lib.hid rX2
              clear HL M F2 L2 bA2 nA2 nX2 bX2 e1 hne x0
              by_cases hk0 : kind = 0 ∧ kk = 0
              · obtain ⟨rfl, rfl⟩ := hk0
                rw [if_pos ⟨rfl, rfl⟩] at HL2
                have HL3 : Hid (lgo (1024 - (0 + 1)) (0 + 1) r2 d2 = lgo 1024 0 r []) := Lib.hid (by rw [← HL2, show 1024 - (0 + 1) = f from by omega])
                have CC := Lib.hid (clone_any d2 X2 dc2 w4 rX2.out (fun e => absurd e hXn.out) (by omega))
                clear HL2
                go_wp2_with fail
                refine CC.out.mono ?_
                rintro e w5 ⟨A5, c5, rfl, o5, b5⟩
                have M3 := Lib.hid (M2.out.below b5)
                have y1 := wrote_cell M3.out.msg 1 _ rfl
                have f1 := frozen_of_row w5 q 1 _ _ M3.out.msg
                have M4 : Hid (∀ W, W = w5.setCell ⟨q, 1, none⟩ (.slice A5 d2.length c5) → LG w g q (q + 1) W A5 d2.length c5 d2 A3 n3 c3 r2) := Lib.hid (by
                  rintro W rfl
                  have F : Fr (fun k => k = q) w5 (w5.setCell ⟨q, 1, none⟩ (.slice A5 d2.length c5)) := (Fr.refl (fun k => k = q) w5).setCell (p := ⟨q, 1, none⟩) (fun _ => rfl) _
                  have h1 := M3.out.hg
                  have h2 := M3.out.hq
                  have h3 := M2.out.lr.plt
                  have h4 := M2.out.bel.size
                  exact ⟨heap_fr M3.out.res F (fun e => by omega), heap_setCell_same _ q 1 _ _ _ M3.out.msg, own_fr (own_base (base2 := w.heap.size) o5 (fun k hk => by have := (o5.lt k hk).1; omega)) F (fun k hk e => by have := (o5.lt k hk).1; omega), rfl,
                    M3.out.lr.fr F (fun e => by omega) (fun a ha e => by have := M3.out.ab a ha; omega), Fr.under M3.out.bel M3.out.bel.size F (fun k hk _ => by omega), h1, h2, rfl, M3.out.ab, M3.out.an, fun k hk => by have := (o5.lt k hk).1; omega⟩)
                clear CC M2 M3 o5 b5
                go_wp2_with fail
                go_roundw
                case rel => exact ⟨1, A5, d2.length, c5, d2, A3, n3, c3, r2, by go_num, by omega, Lib.hid (M4.out _ rfl), HL3⟩
                case measure => simp [intOf]
              · rw [if_neg hk0] at HL2
                have HT : Hid (∀ b : Bool, (kind == 0) = b → b = true → (kk : Int) ≠ 0) := Lib.hid (fun b h1 h2 h3 => hk0 ⟨by rw [h2] at h1; exact beq_iff_eq.1 h1, by omega⟩)
                by_cases hk33 : kind = 33
                · have t0 : (kind == 0) = false := by rw [hk33]; rfl
                  have t1 : (kind != 33) = false := by rw [hk33]; rfl
                  subst hk33
                  have CZ := Lib.hid (nzcont_any d2 X2 d2.length dc2 w4 rfl rX2.out (by omega))
                  obtain ⟨b, hb⟩ : ∃ b, d2.any (fun x => decide (x ≠ 0)) = b := ⟨_, rfl⟩
                  rw [hb] at CZ HL2
                  clear hb HT
                  cases b with
                  | true =>
                    have hV : Hid (lget l = (([], []), 5)) := Lib.hid (by rw [hG2.out, ← HL2]; simp)
                    have y0 := wrote_cell M2.out.res 0 _ rfl
                    have y1 := wrote_cell M2.out.res 1 _ rfl
                    have f0 := frozen_of_row w4 g 0 _ _ M2.out.res
                    have f1 := frozen_of_row w4 g 1 _ _ M2.out.res
                    clear HL2 hG2 hk0
                    go_wp2_with fail
                    refine CZ.out.mono ?_
                    rintro e w5 ⟨rfl, rfl⟩
                    clear CZ
                    go_wp2_with fail
                    obtain ⟨e1, _, e2⟩ := end0 M2.out.res M2.out.bel hg (.slice none 0 0) (.slice none 0 0)
                    refine bodyPost_ret (v := .tuple #[.agg #[.slice none 0 0, .slice none 0 0], .int .i64 5]) (res_ct rfl _ _ ⟨g, 0, none⟩ _ rfl (loadM e1 ⟨_, _, _, rfl⟩ ⟨_, _, _, rfl⟩) rfl) rfl ?_
                    rw [hV.out]
                    exact ⟨none, 0, none, 0, rfl, World.ownsRow_nil _ _ _ _, World.ownsRow_nil _ _ _ _, e2⟩
                  | false =>
                    have HL3 : Hid (lgo (1024 - (kk + 1)) (kk + 1) r2 bod = lgo 1024 0 r []) := Lib.hid (by rw [← HL2, show 1024 - (kk + 1) = f from by omega]; simp)
                    clear HL2 hk0
                    go_wp2_with fail
                    refine CZ.out.mono ?_
                    rintro e w5 ⟨rfl, rfl⟩
                    clear CZ
                    go_wp2_with fail
                    go_roundw
                    case rel => exact ⟨kk + 1, Ab, nb, cb, bod, A3, n3, c3, r2, by go_num, by omega, M2, HL3⟩
                    case measure => simp [intOf]; omega
                · have hV : Hid (lget l = (([], []), 5)) := Lib.hid (by rw [hG2.out, ← HL2]; simp [hk33])
                  have t1 : (kind != 33) = true := by simpa using hk33
                  by_cases hz : kind = 0
                  · have t0 : (kind == 0) = true := by rw [hz]; rfl
                    have t2 : ((kk : Int) == 0) = false := beq_eq_false_iff_ne.2 (HT.out true t0 rfl)
                    replace hz := Lib.hid hz
                    have y0 := wrote_cell M2.out.res 0 _ rfl
                    have y1 := wrote_cell M2.out.res 1 _ rfl
                    have f0 := frozen_of_row w4 g 0 _ _ M2.out.res
                    have f1 := frozen_of_row w4 g 1 _ _ M2.out.res
                    clear HL2 hG2 hk0 HT hk33
                    go_wp2_with fail
                    obtain ⟨e1, _, e2⟩ := end0 M2.out.res M2.out.bel hg (.slice none 0 0) (.slice none 0 0)
                    refine bodyPost_ret (v := .tuple #[.agg #[.slice none 0 0, .slice none 0 0], .int .i64 5]) (res_ct rfl _ _ ⟨g, 0, none⟩ _ rfl (loadM e1 ⟨_, _, _, rfl⟩ ⟨_, _, _, rfl⟩) rfl) rfl ?_
                    rw [hV.out]
                    exact ⟨none, 0, none, 0, rfl, World.ownsRow_nil _ _ _ _, World.ownsRow_nil _ _ _ _, e2⟩
                  · have t0 : (kind == 0) = false := beq_eq_false_iff_ne.2 hz
                    replace hz := Lib.hid hz
                    have y0 := wrote_cell M2.out.res 0 _ rfl
                    have y1 := wrote_cell M2.out.res 1 _ rfl
                    have f0 := frozen_of_row w4 g 0 _ _ M2.out.res
                    have f1 := frozen_of_row w4 g 1 _ _ M2.out.res
                    clear HL2 hG2 hk0 HT hk33
                    go_wp2_with fail
                    obtain ⟨e1, _, e2⟩ := end0 M2.out.res M2.out.bel hg (.slice none 0 0) (.slice none 0 0)
                    refine bodyPost_ret (v := .tuple #[.agg #[.slice none 0 0, .slice none 0 0], .int .i64 5]) (res_ct rfl _ _ ⟨g, 0, none⟩ _ rfl (loadM e1 ⟨_, _, _, rfl⟩ ⟨_, _, _, rfl⟩) rfl) rfl ?_
                    rw [hV.out]
                    exact ⟨none, 0, none, 0, rfl, World.ownsRow_nil _ _ _ _, World.ownsRow_nil _ _ _ _, e2⟩
      · have dk : (k != 1) = true := by simpa using hk1
        have hV : Hid (lget l = (([], []), 5)) := Lib.hid (by rw [hG2]; simp [hk1])
        replace hk1 := Lib.hid hk1
        have y0 := wrote_cell M1.out.res 0 _ rfl
        have y1 := wrote_cell M1.out.res 1 _ rfl
        have f0 := frozen_of_row w3 g 0 _ _ M1.out.res
        have f1 := frozen_of_row w3 g 1 _ _ M1.out.res
        clear hG2 hr hn
        go_wp2_with fail
        obtain ⟨e1, _, e2⟩ := end0 M1.out.res M1.out.bel hg (.slice none 0 0) (.slice none 0 0)
        refine bodyPost_ret (v := .tuple #[.agg #[.slice none 0 0, .slice none 0 0], .int .i64 5]) (res_ct rfl _ _ ⟨g, 0, none⟩ _ rfl (loadM e1 ⟨_, _, _, rfl⟩ ⟨_, _, _, rfl⟩) rfl) rfl ?_
        rw [hV.out]
        exact ⟨none, 0, none, 0, rfl, World.ownsRow_nil _ _ _ _, World.ownsRow_nil _ _ _ _, e2⟩
end Go.Proofs.YtdldipkbknhhoaaDoor

/- fields, plain law: what is laid is read as it was. -/
namespace Go.Proofs.YtdldipkbknhhoaaDoor
open Go.RowKit

theorem phead_mul (f : Int) (b : Nat) : phead f b = 2 ^ b * (f / 2 ^ b) := by
  have := Int.emod_add_mul_ediv f (2 ^ b)
  unfold phead; omega
theorem head_div (f : Int) (b : Nat) (x : Int) (hb1 : 1 ≤ b) (hb8 : b ≤ 8) (hx0 : 0 ≤ x) (hx : x ≤ 2 ^ b - 1) : (phead f b + x) / 2 ^ b = f / 2 ^ b := by
  have hP := pmost_bd b hb1 hb8
  rw [phead_mul, Int.add_comm, Int.add_mul_ediv_left _ _ (by omega), Int.ediv_eq_zero_of_lt hx0 (by omega)]
  omega
theorem pput_head (f : Int) (b : Nat) (n : Int) (h0 : 0 ≤ f) (h1 : f ≤ 255) (hb1 : 1 ≤ b) (hb8 : b ≤ 8) (hn0 : 0 ≤ n) :
    ∃ x r, pput f b n = x :: r ∧ (x.toNat : Int) / 2 ^ b = f / 2 ^ b := by
  have hP := pmost_bd b hb1 hb8
  unfold pput
  by_cases hlt : n < pmost b
  · rw [if_pos hlt]
    unfold pmost at hlt
    refine ⟨_, _, rfl, ?_⟩
    rw [(head_mod f b n h0 h1 hb1 hb8 hn0 (by omega)).1, head_div f b n hb1 hb8 hn0 (by omega)]
  · rw [if_neg hlt]
    refine ⟨_, _, rfl, ?_⟩
    unfold pmost
    rw [(head_mod f b (2 ^ b - 1) h0 h1 hb1 hb8 (by omega) (by omega)).1, head_div f b _ hb1 hb8 (by omega) (by omega)]
theorem pclr_bit (f : Int) (b : Nat) (h0 : 0 ≤ f) (h1 : f ≤ 255) (hb1 : 1 ≤ b) (hb7 : b ≤ 7) : pclr f b / 2 ^ b % 2 = 0 := by
  have hb : b = 1 ∨ b = 2 ∨ b = 3 ∨ b = 4 ∨ b = 5 ∨ b = 6 ∨ b = 7 := by omega
  unfold pclr
  rcases hb with rfl | rfl | rfl | rfl | rfl | rfl | rfl <;> simp only [Int.reducePow] <;> omega

theorem pgettext_ptext (f : Int) (b : Nat) (s t : List UInt8) (h0 : 0 ≤ f) (h1 : f ≤ 255) (hb1 : 1 ≤ b) (hb7 : b ≤ 7) (hs : s.length ≤ 2000) :
    pgettext b (ptext f b s ++ t) = (s, ((ptext f b s).length : Int), 0) := by
  have hc := pclr_bd f b h0 h1 hb1 hb7
  have hg := pget_pput (pclr f b) b s.length (s ++ t) hc.1 hc.2 hb1 (by omega) (by omega) (by omega)
  obtain ⟨x, r, he, hx⟩ := pput_head (pclr f b) b s.length hc.1 hc.2 hb1 (by omega) (by omega)
  rw [pclr_bit f b h0 h1 hb1 hb7 |> fun h => show pclr f b / 2 ^ b = pclr f b / 2 ^ b from rfl] at hx
  have hbit := pclr_bit f b h0 h1 hb1 hb7
  have ht : ptext f b s ++ t = pput (pclr f b) b s.length ++ (s ++ t) := by unfold ptext; simp
  have hl : (ptext f b s).length = (pput (pclr f b) b s.length).length + s.length := by unfold ptext; simp
  rw [ht, hl]
  generalize pput (pclr f b) b s.length = p at he hg
  have hd : (p ++ (s ++ t)).drop p.length = s ++ t := by simp
  have hlen : (p ++ (s ++ t)).length = p.length + (s.length + t.length) := by simp
  subst he
  have key : ∀ q : List UInt8, (∃ r', q = x :: r') → pgettext b q = if (x.toNat : Int) / 2 ^ b % 2 = 1 then ([], 0, 6)
    else if (pget b q).2.2 ≠ 0 then ([], 0, (pget b q).2.2)
    else if 2000 < (pget b q).1 then ([], 0, 4)
    else if (q.length : Int) - (pget b q).2.1 < (pget b q).1 then ([], 0, 3)
    else ((q.drop (pget b q).2.1.toNat).take (pget b q).1.toNat, (pget b q).2.1 + (pget b q).1, 0) := by
    rintro q ⟨r', rfl⟩; rfl
  rw [key _ ⟨_, List.cons_append⟩, hg, hx, hbit, if_neg (by omega), if_neg (by simp), if_neg (by simp only []; omega), if_neg (by rw [hlen]; simp only []; omega)]
  simp only [Int.toNat_natCast, hd, List.take_left', Prod.mk.injEq]
  refine ⟨by simp, by omega, trivial⟩
theorem txt_back (v : ByteArray) : (⟨v.data.toList.toArray⟩ : ByteArray) = v := by simp
theorem ptxt_ptext (f : Int) (b : Nat) (v : ByteArray) (t : List UInt8) (h0 : 0 ≤ f) (h1 : f ≤ 255) (hb1 : 1 ≤ b) (hb7 : b ≤ 7) (hs : v.size ≤ 2000) :
    ptxt b (ptext f b v.data.toList ++ t) 0 = (t, 0, v) := by
  unfold ptxt
  rw [if_neg (by omega), pgettext_ptext f b _ t h0 h1 hb1 hb7 (by rw [data_length]; exact hs)]
  simp only [Int.toNat_natCast, List.drop_left', txt_back]
theorem pval_ptext (v : ByteArray) (t : List UInt8) (hs : v.size ≤ 400) (hv : valok v = true) : pval (ptext 0 7 v.data.toList ++ t) 0 = (t, 0, v) := by
  unfold pval
  rw [ptxt_ptext 0 7 v t (by omega) (by omega) (by omega) (by omega) (by omega)]
  rw [if_neg (by simp), if_neg (by simp only []; omega), if_pos hv]
theorem fixed_len : fixed.length = 16 := by decide
theorem pnum_pput (f : Int) (b k : Nat) (t : List UInt8) (h0 : 0 ≤ f) (h1 : f ≤ 255) (hb1 : 1 ≤ b) (hb8 : b ≤ 8) (hk : k < 16) :
    pnum b (pput f b k ++ t) = (t, 0, fixed.getD k fdz) := by
  unfold pnum
  rw [pget_pput f b k t h0 h1 hb1 hb8 (by omega) (by omega), if_neg (by simp), if_neg (by simp only []; omega)]
  simp only [Int.toNat_natCast, List.drop_left']
theorem fi_some {q : Fd → Bool} {k : Nat} (h : fixed.findIdx? q = some k) : k < 16 ∧ q (fixed.getD k fdz) = true := by
  obtain ⟨hk, hq, _⟩ := List.findIdx?_eq_some_iff_getElem.1 h
  rw [fixed_len] at hk
  refine ⟨hk, ?_⟩
  rw [List.getD_eq_getElem?_getD, List.getElem?_eq_getElem (by rw [fixed_len]; exact hk), Option.getD_some]
  exact hq
theorem nat_head {x : UInt8} {b : Nat} {f : Int} (h : (x.toNat : Int) / 2 ^ b = f / 2 ^ b) (g : Nat) (hg : f / 2 ^ b = (g : Int)) : x.toNat / 2 ^ b = g := by
  rw [hg] at h
  have e : ((x.toNat / 2 ^ b : Nat) : Int) = (g : Int) := by rw [Int.natCast_ediv, Int.natCast_pow]; exact h
  exact Int.ofNat.inj e
theorem pln_fline (f : Fd) (t : List UInt8) (hf : fok f = true) (hv : f.value.size ≤ 400) : pln (fline f ++ t) = (t, 0, f) := by
  unfold fok at hf
  rw [Bool.and_eq_true] at hf
  have hn60 := nameok_size hf.1
  have hpv := pval_ptext f.value t hv hf.2
  unfold fline
  split
  · rename_i k hk
    obtain ⟨h16, hq⟩ := fi_some hk
    have hq := of_decide_eq_true hq
    have hp := pnum_pput 192 6 k t (by omega) (by omega) (by omega) (by omega) h16
    obtain ⟨x, r, he, hx⟩ := pput_head 192 6 k (by omega) (by omega) (by omega) (by omega) (by omega)
    have hx := nat_head hx 3 (by decide)
    rw [he] at hp ⊢
    rw [List.cons_append] at hp ⊢
    simp only [Nat.reducePow] at hx
    rw [pln.eq_2]
    rw [if_pos hx, hp, hq]
  · unfold fhead
    split
    · rename_i k hk
      obtain ⟨h16, hq⟩ := fi_some hk
      have hq := of_decide_eq_true hq
      have hp := pnum_pput 80 4 k (ptext 0 7 f.value.data.toList ++ t) (by omega) (by omega) (by omega) (by omega) h16
      obtain ⟨x, r, he, hx⟩ := pput_head 80 4 k (by omega) (by omega) (by omega) (by omega) (by omega)
      have hx := nat_head hx 5 (by decide)
      rw [List.append_assoc]
      rw [he] at hp ⊢
      rw [List.cons_append] at hp ⊢
      simp only [Nat.reducePow] at hx
      rw [pln.eq_2]
      rw [if_neg (by omega), if_pos hx, hp]
      simp only [hpv, hq]
    · have hp := ptxt_ptext 32 3 f.name (ptext 0 7 f.value.data.toList ++ t) (by omega) (by omega) (by omega) (by omega) (by omega)
      have hc : pclr 32 3 = 32 := by decide
      obtain ⟨x, r, he, hx⟩ := pput_head 32 3 f.name.data.toList.length (by omega) (by omega) (by omega) (by omega) (by omega)
      have hx := nat_head hx 4 (by decide)
      rw [List.append_assoc]
      unfold ptext at hp ⊢
      rw [hc, he] at hp ⊢
      simp only [List.cons_append, Nat.reducePow] at hp hx ⊢
      rw [pln.eq_2]
      unfold ptext at hpv
      rw [if_neg (by omega), if_neg (by omega), if_pos (by omega), hp]
      simp only [hf.1]
      rw [if_neg (by simp), hpv]
theorem fline_pos (f : Fd) : 1 ≤ (fline f).length := by
  unfold fline
  split
  · exact pput_pos _ _ _
  · rw [List.length_append]; unfold fhead
    split
    · have := pput_pos 80 4 (‹Nat› : Int); omega
    · unfold ptext; rw [List.length_append]; have := pput_pos (pclr 32 3) 3 f.name.data.toList.length; omega
theorem fgl_lines : ∀ (fs : List Fd) (n : Nat) (u : List UInt8) (acc : List Fd), (∀ f ∈ fs, fok f = true ∧ f.value.size ≤ 400) → acc.length + fs.length ≤ 16 →
    fgl (n + fs.length) (flines fs ++ u) acc = fgl n u (acc ++ fs)
  | [], n, u, acc, _, _ => by simp [flines]
  | f :: fs, n, u, acc, h, hl => by
    have hp := pln_fline f (flines fs ++ u) (h f (by simp)).1 (h f (by simp)).2
    have e : flines (f :: fs) ++ u = fline f ++ (flines fs ++ u) := by simp [flines]
    rw [e]
    have hpos := fline_pos f
    simp only [List.length_cons] at hl
    cases hq : fline f with
    | nil => rw [hq] at hpos; simp at hpos
    | cons x r =>
      rw [hq] at hp
      rw [List.cons_append] at hp ⊢
      rw [show n + (f :: fs).length = (n + fs.length) + 1 from rfl, fgl_cons, if_neg (by omega), hp, if_neg (by simp)]
      rw [fgl_lines fs n u (acc ++ [f]) (fun g hg => h g (by simp [hg])) (by rw [List.length_append]; simp only [List.length_cons, List.length_nil]; omega)]
      rw [List.append_assoc]; rfl
theorem fget_flines (fs : List Fd) (h : ∀ f ∈ fs, fok f = true ∧ f.value.size ≤ 400) (hl : fs.length ≤ 16) : fget (0 :: 0 :: flines fs) = (fs, 0) := by
  have := fgl_lines fs (17 - fs.length) [] [] h (by simpa using hl)
  rw [show 17 - fs.length + fs.length = 17 by omega, List.append_nil, fgl_nil] at this
  unfold fget
  rw [if_neg (by simp), if_neg (by simp)]
  exact this
theorem fput_ok (fs : List Fd) (h : ∀ f ∈ fs, fok f = true ∧ f.value.size ≤ 400) (hl : fs.length ≤ 16) : fput fs = (0 :: 0 :: flines fs, 0) := by
  unfold fput
  rw [if_neg, if_pos]
  · rw [List.all_eq_true]; exact fun f hf => (h f hf).1
  · rw [Bool.or_eq_true, decide_eq_true_eq, List.any_eq_true]
    rintro (h1 | ⟨f, hf, h2⟩)
    · omega
    · have := (h f hf).2
      have := of_decide_eq_true h2
      omega
theorem flines_append (fs gs : List Fd) : flines (fs ++ gs) = flines fs ++ flines gs := by simp [flines]
end Go.Proofs.YtdldipkbknhhoaaDoor

/- letter: what is laid is read as it was: in plain Lean. -/
namespace Go.Proofs.YtdldipkbknhhoaaDoor
open Go.RowKit

theorem fput_err (fs : List Fd) (h : (fput fs).2 ≠ 0) : (fput fs).1 = [] := by
  unfold fput at h ⊢
  split
  · rfl
  · rename_i h1
    rw [if_neg h1] at h
    split
    · rename_i h2; rw [if_pos h2] at h; exact absurd rfl h
    · rfl
theorem fput_inv (fs : List Fd) (h : (fput fs).2 = 0) : fput fs = (0 :: 0 :: flines fs, 0) ∧ fs.length ≤ 16 ∧ ∀ f ∈ fs, fok f = true ∧ f.value.size ≤ 400 := by
  unfold fput at h ⊢
  split
  · rename_i h1; rw [if_pos h1] at h; simp at h
  · rename_i h1
    rw [if_neg h1] at h
    split
    · rename_i h2
      simp only [Bool.or_eq_true, decide_eq_true_eq, List.any_eq_true, not_or, not_exists, not_and] at h1
      exact ⟨rfl, by omega, fun f hf => ⟨List.all_eq_true.1 h2 f hf, by have := h1.2 f hf; omega⟩⟩
    · rename_i h2; rw [if_neg h2] at h; simp at h
theorem fget_fput (fs : List Fd) (h : (fput fs).2 = 0) : fget (fput fs).1 = (fs, 0) := by
  obtain ⟨h1, h2, h3⟩ := fput_inv fs h
  rw [h1]
  exact fget_flines fs h3 h2
/-- A part that is laid is taken as it was. -/
theorem lrd_ltpart (kind : Int) (d t : List UInt8) (h0 : 0 ≤ kind) (hk : kind ≤ 63) (hd : d.length ≤ 1000000) : lrd (ltpart kind d ++ t) = some (kind, d, t) := by
  have e1 : vget (ltpart kind d ++ t) = (kind, ((vput kind).length : Int), 0) := by
    unfold ltpart
    rw [List.append_assoc]
    exact vget_vput kind _ h0 (by omega)
  have e2 : (ltpart kind d ++ t).drop (vput kind).length = vput (d.length : Int) ++ (d ++ t) := by
    unfold ltpart
    rw [List.append_assoc, List.drop_left, List.append_assoc]
  have e3 : vget (vput (d.length : Int) ++ (d ++ t)) = ((d.length : Int), ((vput (d.length : Int)).length : Int), 0) := vget_vput _ _ (by omega) (by omega)
  have e4 : (ltpart kind d ++ t).length = (vput kind).length + ((vput (d.length : Int)).length + (d.length + t.length)) := by
    unfold ltpart
    simp only [List.length_append]
    omega
  have e5 : (ltpart kind d ++ t).drop ((vput kind).length + (vput (d.length : Int)).length) = d ++ t := by
    rw [← List.drop_drop, e2, List.drop_left]
  have e6 : (ltpart kind d ++ t).drop ((vput kind).length + (vput (d.length : Int)).length + d.length) = t := by
    rw [← List.drop_drop, e5, List.drop_left]
  unfold lrd
  rw [e1]
  simp only [Int.toNat_natCast]
  rw [e2, e3]
  simp only [Int.toNat_natCast, ne_eq, not_true_eq_false, if_false, false_or]
  rw [if_neg (by omega), e5, e6, List.take_left]
theorem zpads_cons (j : Nat) (js : List Nat) : zpads (j :: js) = zpart j ++ zpads js := rfl
theorem ltpart_pos (kind : Int) (d : List UInt8) (h : kind ≤ 63) : ltpart kind d ≠ [] := by
  unfold ltpart
  intro e
  have h1 : (vput kind).length = 0 := by rw [(List.append_eq_nil_iff.1 e).1]; rfl
  rw [vput_length, vl_small (by omega)] at h1
  omega
theorem zany (j : Nat) : (List.replicate j (0 : UInt8)).any (fun x => decide (x ≠ 0)) = false := by
  rw [List.any_eq_false]
  intro x hx
  rw [List.eq_of_mem_replicate hx]
  decide
theorem lgo_pads : ∀ (js : List Nat) (f k : Nat) (bod : List UInt8), (∀ j ∈ js, j ≤ 62) → js.length ≤ f → lgo f k (zpads js) bod = some bod
  | [], f, k, bod, _, _ => lgo_nil f k bod
  | j :: js, 0, k, bod, _, h => by simp at h
  | j :: js, f + 1, k, bod, hj, h => by
    have hz : zpads (j :: js) = ltpart 33 (List.replicate j 0) ++ zpads js := rfl
    have hj0 := hj j (List.mem_cons_self ..)
    rw [hz, lgo_some (fun e => ltpart_pos 33 (List.replicate j 0) (by omega) (List.append_eq_nil_iff.1 e).1) (lrd_ltpart 33 (List.replicate j 0) (zpads js) (by omega) (by omega) (by rw [List.length_replicate]; omega)),
      if_neg (by omega), if_neg (by rw [zany]; simp)]
    exact lgo_pads js f (k + 1) bod (fun j hm => hj j (List.mem_cons_of_mem _ hm)) (by simp at h; omega)
theorem zpads_len : ∀ (js : List Nat), (∀ j ∈ js, j ≤ 62) → 2 * js.length ≤ (zpads js).length
  | [], _ => by simp
  | j :: js, h => by
    have h1 := zpads_len js (fun j hm => h j (List.mem_cons_of_mem _ hm))
    have h2 := zpart_len (h j (List.mem_cons_self ..))
    rw [zpads_cons, List.length_append, h2, List.length_cons]
    omega
theorem ltE_inv {fs : List Fd} {D : List UInt8} {b : Int} (h : ltE fs D b = 0) : bok b = true ∧ (ltplain fs D).2 = 0 ∧ (fput fs).2 = 0 := by
  unfold ltE at h
  split at h
  · simp at h
  · rename_i h1
    split at h
    · rename_i h2; exact absurd h h2
    · rename_i h2
      have h3 : (ltplain fs D).2 = 0 := Decidable.of_not_not h2
      refine ⟨by simpa using h1, h3, ?_⟩
      unfold ltplain at h3
      split at h3
      · exact h3
      · rename_i h4; exact Decidable.of_not_not h4
/-- A letter that is laid is read as it was. -/
theorem lget_put {fs : List Fd} {D : List UInt8} {b : Int} {R : List UInt8} (hD : D.length ≤ 900000) (h0 : ltE fs D b = 0) (h : LtR fs D b R) : lget R = ((fs, D), 0) := by
  obtain ⟨hb, hp, hf⟩ := ltE_inv h0
  obtain ⟨hl, js, hj, rfl⟩ := h.2 h0
  have hbd := bok_bd hb
  have hzl := zpads_len js hj
  have hjl : js.length ≤ 1023 := by
    simp only [List.length_append] at hl
    omega
  have hP : (ltplain fs D).1 = ltpart 1 (fput fs).1 ++ (if D.length = 0 then [] else ltpart 0 D) := by
    unfold ltplain
    rw [if_neg (by rw [hf]; simp)]
  rw [hP, List.append_assoc] at hl ⊢
  have hr := lrd_ltpart 1 (fput fs).1 ((if D.length = 0 then [] else ltpart 0 D) ++ zpads js) (by omega) (by omega) (by have := fput_len fs; omega)
  have hgo : lgo 1024 0 ((if D.length = 0 then [] else ltpart 0 D) ++ zpads js) [] = some D := by
    by_cases hD0 : D.length = 0
    · rw [if_pos hD0, List.nil_append, lgo_pads js _ _ _ hj (by omega), List.eq_nil_of_length_eq_zero hD0]
    · rw [if_neg hD0, lgo_some (fun e => ltpart_pos 0 D (by omega) (List.append_eq_nil_iff.1 e).1) (lrd_ltpart 0 D (zpads js) (by omega) (by omega) (by omega)), if_pos ⟨rfl, rfl⟩]
      exact lgo_pads js _ _ _ hj (by omega)
  unfold lget
  rw [hl, if_neg (by rw [hb]; simp), hr]
  simp only [ne_eq, not_true_eq_false, if_false]
  rw [hgo]
  simp only []
  rw [fget_fput fs hf]
  simp
theorem lget_bucket (l : List UInt8) (h : bok l.length = false) : lget l = (([], []), 13) := by unfold lget; rw [if_pos h]
end Go.Proofs.YtdldipkbknhhoaaDoor

/- The document's fields: value, Name. (Printed by gen_fsA.py.) -/
namespace Go.Proofs.YtdldipkbknhhoaaDoor
open Go.RowKit

set_option maxRecDepth 100000 in
set_option maxHeartbeats 2000000 in
theorem rval_any (s : ByteArray) (w : World) (hs : s.size ≤ 1000000) :
    Calls Tryd.prog 44 #[.string s] w fun e w' => e = .returned (.bool (valok s)) ∧ w = w' := by
  obtain ⟨n, hn⟩ : ∃ n, s.size = n := ⟨_, rfl⟩
  go_enter Tryd.func44, Tryd.ntmps44
  go_wp2
  go_loopw [3] (fun i wr => ∃ k : Nat, k ≤ n ∧ i = .int .i64 k ∧ wr = w ∧ Hid ((List.range k).all (fun k => vchar (s.data.toList.getD k 0).toNat) = true)) (fun i _ => n - (intOf i).toNat)
  case atStart => exact ⟨0, by omega, rfl, rfl, Lib.hid rfl⟩
  case round =>
    obtain ⟨k, hk, rfl, rfl, HA⟩ := hrel
    by_cases hkn : k < n
    · have hks : k < s.size := by omega
      obtain ⟨c, hc⟩ : ∃ c, (s[k]'hks).toNat = c := ⟨_, rfl⟩
      have hcl : (s.data.toList.getD k 0).toNat = c := by rw [← hc]; exact chr_at s k hks
      have h3 : c < 32 ∨ (¬ c < 32 ∧ 126 < c) ∨ (¬ c < 32 ∧ ¬ 126 < c) := by omega
      rcases h3 with h | ⟨h, h2⟩ | ⟨h, h2⟩
      · have d1 : decide ((c : Int) < 32) = true := decide_eq_true (by omega)
        have hno := Lib.hid (all_no (fun k => vchar (s.data.toList.getD k 0).toNat) n k hkn (by simp only [hcl]; unfold vchar; rw [decide_eq_false (by omega)]; rfl))
        replace hcl := Lib.hid hcl
        clear h
        go_wp2
        go_ret
        refine ⟨ret_bool ?_, rfl⟩
        unfold valok; rw [hn]; exact hno.out.symm
      · have d1 : decide ((c : Int) < 32) = false := decide_eq_false (by omega)
        have d2 : decide (126 < (c : Int)) = true := decide_eq_true (by omega)
        have hno := Lib.hid (all_no (fun k => vchar (s.data.toList.getD k 0).toNat) n k hkn (by simp only [hcl]; unfold vchar; rw [decide_eq_false (show ¬ c ≤ 126 by omega), Bool.and_false]))
        replace hcl := Lib.hid hcl
        clear h h2
        go_wp2
        go_ret
        refine ⟨ret_bool ?_, rfl⟩
        unfold valok; rw [hn]; exact hno.out.symm
      · have d1 : decide ((c : Int) < 32) = false := decide_eq_false (by omega)
        have d2 : decide (126 < (c : Int)) = false := decide_eq_false (by omega)
        have hyes : Hid ((List.range (k + 1)).all (fun k => vchar (s.data.toList.getD k 0).toNat) = true) := Lib.hid (by
          rw [all_snoc, HA.out, hcl]
          unfold vchar
          rw [decide_eq_true (by omega), decide_eq_true (by omega)]; rfl)
        replace hcl := Lib.hid hcl
        clear h h2 HA
        go_wp2
        go_roundw
        case rel => exact ⟨k + 1, by omega, by go_num, by first | rfl | trivial, hyes⟩
        case measure => simp [intOf]; omega
    · have hk' : k = n := by omega
      have HB : Hid (valok s = true) := Lib.hid (by unfold valok; rw [hn, ← hk']; exact HA.out)
      clear HA
      go_wp2
      go_ret
      exact ⟨ret_bool HB.out.symm, rfl⟩

set_option maxRecDepth 100000 in
set_option maxHeartbeats 4000000 in
theorem rname_any (s : ByteArray) (w : World) (hs : s.size ≤ 1000000) :
    Calls Tryd.prog 43 #[.string s] w fun e w' => e = .returned (.bool (nameok s)) ∧ w = w' := by
  obtain ⟨n, hn⟩ : ∃ n, s.size = n := ⟨_, rfl⟩
  go_enter Tryd.func43, Tryd.ntmps43
  go_wp2
  go_loopw [3] (fun i wr => ∃ k : Nat, k ≤ n ∧ i = .int .i64 k ∧ wr = w ∧ Hid ((List.range k).all (fun k => nchar n k (s.data.toList.getD k 0).toNat) = true)) (fun i _ => n - (intOf i).toNat)
  case atStart => exact ⟨0, by omega, rfl, rfl, Lib.hid rfl⟩
  case round =>
    obtain ⟨k, hk, rfl, rfl, HA⟩ := hrel
    by_cases hkn : k < n
    · have hks : k < s.size := by omega
      obtain ⟨c, hc⟩ : ∃ c, (s[k]'hks).toNat = c := ⟨_, rfl⟩
      have hcl : (s.data.toList.getD k 0).toNat = c := by rw [← hc]; exact chr_at s k hks
      have hcls : (c < 45) ∨ (c = 45) ∨ (45 < c ∧ c < 48) ∨ (48 ≤ c ∧ c ≤ 57) ∨ (c = 58 ∧ 0 < k) ∨ (c = 58 ∧ k = 0 ∧ n = 1) ∨ (c = 58 ∧ k = 0 ∧ n ≠ 1) ∨ (58 < c ∧ c < 97) ∨ (97 ≤ c ∧ c ≤ 122) ∨ (122 < c) := by omega
      rcases hcls with h | h | h | h | h | h | h | h | h | h
      · have d1 : decide (97 ≤ (c : Int)) = false := decide_eq_false (by omega)
        have d1' : decide (97 ≤ c) = false := decide_eq_false (by omega)
        have d2 : decide ((c : Int) ≤ 122) = true := decide_eq_true (by omega)
        have d2' : decide (c ≤ 122) = true := decide_eq_true (by omega)
        have d3 : decide (48 ≤ (c : Int)) = false := decide_eq_false (by omega)
        have d3' : decide (48 ≤ c) = false := decide_eq_false (by omega)
        have d4 : decide ((c : Int) ≤ 57) = true := decide_eq_true (by omega)
        have d4' : decide (c ≤ 57) = true := decide_eq_true (by omega)
        have d5 : ((c : Int) == 45) = false := by first | (rw [beq_iff_eq]; omega) | (rw [beq_eq_false_iff_ne]; omega)
        have d6 : ((c : Int) == 58) = false := by first | (rw [beq_iff_eq]; omega) | (rw [beq_eq_false_iff_ne]; omega)
        have hnc : nchar n k c = false := by unfold nchar; simp; omega
        have hno := Lib.hid (all_no (fun k => nchar n k (s.data.toList.getD k 0).toNat) n k hkn (by simp only [hcl]; exact hnc))
        replace hcl := Lib.hid hcl
        replace hnc := Lib.hid hnc
        clear h
        go_wp2
        go_ret
        refine ⟨ret_bool ?_, rfl⟩
        unfold nameok; rw [hn, hno.out]; rfl
      · have d1 : decide (97 ≤ (c : Int)) = false := decide_eq_false (by omega)
        have d1' : decide (97 ≤ c) = false := decide_eq_false (by omega)
        have d2 : decide ((c : Int) ≤ 122) = true := decide_eq_true (by omega)
        have d2' : decide (c ≤ 122) = true := decide_eq_true (by omega)
        have d3 : decide (48 ≤ (c : Int)) = false := decide_eq_false (by omega)
        have d3' : decide (48 ≤ c) = false := decide_eq_false (by omega)
        have d4 : decide ((c : Int) ≤ 57) = true := decide_eq_true (by omega)
        have d4' : decide (c ≤ 57) = true := decide_eq_true (by omega)
        have d5 : ((c : Int) == 45) = true := by first | (rw [beq_iff_eq]; omega) | (rw [beq_eq_false_iff_ne]; omega)
        have d6 : ((c : Int) == 58) = false := by first | (rw [beq_iff_eq]; omega) | (rw [beq_eq_false_iff_ne]; omega)
        have hnc : nchar n k c = true := by unfold nchar; simp; omega
        have hyes : Hid ((List.range (k + 1)).all (fun k => nchar n k (s.data.toList.getD k 0).toNat) = true) := Lib.hid (by rw [all_snoc, HA.out, hcl, hnc]; rfl)
        replace hcl := Lib.hid hcl
        replace hnc := Lib.hid hnc
        clear HA h
        go_wp2
        go_roundw
        case rel => exact ⟨k + 1, by omega, by go_num, by first | rfl | trivial, hyes⟩
        case measure => simp [intOf]; omega
      · have d1 : decide (97 ≤ (c : Int)) = false := decide_eq_false (by omega)
        have d1' : decide (97 ≤ c) = false := decide_eq_false (by omega)
        have d2 : decide ((c : Int) ≤ 122) = true := decide_eq_true (by omega)
        have d2' : decide (c ≤ 122) = true := decide_eq_true (by omega)
        have d3 : decide (48 ≤ (c : Int)) = false := decide_eq_false (by omega)
        have d3' : decide (48 ≤ c) = false := decide_eq_false (by omega)
        have d4 : decide ((c : Int) ≤ 57) = true := decide_eq_true (by omega)
        have d4' : decide (c ≤ 57) = true := decide_eq_true (by omega)
        have d5 : ((c : Int) == 45) = false := by first | (rw [beq_iff_eq]; omega) | (rw [beq_eq_false_iff_ne]; omega)
        have d6 : ((c : Int) == 58) = false := by first | (rw [beq_iff_eq]; omega) | (rw [beq_eq_false_iff_ne]; omega)
        have hnc : nchar n k c = false := by unfold nchar; simp; omega
        have hno := Lib.hid (all_no (fun k => nchar n k (s.data.toList.getD k 0).toNat) n k hkn (by simp only [hcl]; exact hnc))
        replace hcl := Lib.hid hcl
        replace hnc := Lib.hid hnc
        clear h
        go_wp2
        go_ret
        refine ⟨ret_bool ?_, rfl⟩
        unfold nameok; rw [hn, hno.out]; rfl
      · have d1 : decide (97 ≤ (c : Int)) = false := decide_eq_false (by omega)
        have d1' : decide (97 ≤ c) = false := decide_eq_false (by omega)
        have d2 : decide ((c : Int) ≤ 122) = true := decide_eq_true (by omega)
        have d2' : decide (c ≤ 122) = true := decide_eq_true (by omega)
        have d3 : decide (48 ≤ (c : Int)) = true := decide_eq_true (by omega)
        have d3' : decide (48 ≤ c) = true := decide_eq_true (by omega)
        have d4 : decide ((c : Int) ≤ 57) = true := decide_eq_true (by omega)
        have d4' : decide (c ≤ 57) = true := decide_eq_true (by omega)
        have d5 : ((c : Int) == 45) = false := by first | (rw [beq_iff_eq]; omega) | (rw [beq_eq_false_iff_ne]; omega)
        have d6 : ((c : Int) == 58) = false := by first | (rw [beq_iff_eq]; omega) | (rw [beq_eq_false_iff_ne]; omega)
        have hnc : nchar n k c = true := by unfold nchar; simp; omega
        have hyes : Hid ((List.range (k + 1)).all (fun k => nchar n k (s.data.toList.getD k 0).toNat) = true) := Lib.hid (by rw [all_snoc, HA.out, hcl, hnc]; rfl)
        replace hcl := Lib.hid hcl
        replace hnc := Lib.hid hnc
        clear HA h
        go_wp2
        go_roundw
        case rel => exact ⟨k + 1, by omega, by go_num, by first | rfl | trivial, hyes⟩
        case measure => simp [intOf]; omega
      · have d1 : decide (97 ≤ (c : Int)) = false := decide_eq_false (by omega)
        have d1' : decide (97 ≤ c) = false := decide_eq_false (by omega)
        have d2 : decide ((c : Int) ≤ 122) = true := decide_eq_true (by omega)
        have d2' : decide (c ≤ 122) = true := decide_eq_true (by omega)
        have d3 : decide (48 ≤ (c : Int)) = true := decide_eq_true (by omega)
        have d3' : decide (48 ≤ c) = true := decide_eq_true (by omega)
        have d4 : decide ((c : Int) ≤ 57) = false := decide_eq_false (by omega)
        have d4' : decide (c ≤ 57) = false := decide_eq_false (by omega)
        have d5 : ((c : Int) == 45) = false := by first | (rw [beq_iff_eq]; omega) | (rw [beq_eq_false_iff_ne]; omega)
        have d6 : ((c : Int) == 58) = true := by first | (rw [beq_iff_eq]; omega) | (rw [beq_eq_false_iff_ne]; omega)
        have d7 : ((k : Int) == 0) = false := by first | (rw [beq_iff_eq]; omega) | (rw [beq_eq_false_iff_ne]; omega)
        have hnc : nchar n k c = false := by unfold nchar; simp; omega
        have hno := Lib.hid (all_no (fun k => nchar n k (s.data.toList.getD k 0).toNat) n k hkn (by simp only [hcl]; exact hnc))
        replace hcl := Lib.hid hcl
        replace hnc := Lib.hid hnc
        clear h
        go_wp2
        go_ret
        refine ⟨ret_bool ?_, rfl⟩
        unfold nameok; rw [hn, hno.out]; rfl
      · have d1 : decide (97 ≤ (c : Int)) = false := decide_eq_false (by omega)
        have d1' : decide (97 ≤ c) = false := decide_eq_false (by omega)
        have d2 : decide ((c : Int) ≤ 122) = true := decide_eq_true (by omega)
        have d2' : decide (c ≤ 122) = true := decide_eq_true (by omega)
        have d3 : decide (48 ≤ (c : Int)) = true := decide_eq_true (by omega)
        have d3' : decide (48 ≤ c) = true := decide_eq_true (by omega)
        have d4 : decide ((c : Int) ≤ 57) = false := decide_eq_false (by omega)
        have d4' : decide (c ≤ 57) = false := decide_eq_false (by omega)
        have d5 : ((c : Int) == 45) = false := by first | (rw [beq_iff_eq]; omega) | (rw [beq_eq_false_iff_ne]; omega)
        have d6 : ((c : Int) == 58) = true := by first | (rw [beq_iff_eq]; omega) | (rw [beq_eq_false_iff_ne]; omega)
        have d7 : ((k : Int) == 0) = true := by first | (rw [beq_iff_eq]; omega) | (rw [beq_eq_false_iff_ne]; omega)
        have d8 : decide ((1 : Int) < (n : Int)) = false := decide_eq_false (by omega)
        have d8' : decide (1 < n) = false := decide_eq_false (by omega)
        have hnc : nchar n k c = false := by unfold nchar; simp; omega
        have hno := Lib.hid (all_no (fun k => nchar n k (s.data.toList.getD k 0).toNat) n k hkn (by simp only [hcl]; exact hnc))
        replace hcl := Lib.hid hcl
        replace hnc := Lib.hid hnc
        clear h
        go_wp2
        go_ret
        refine ⟨ret_bool ?_, rfl⟩
        unfold nameok; rw [hn, hno.out]; rfl
      · have d1 : decide (97 ≤ (c : Int)) = false := decide_eq_false (by omega)
        have d1' : decide (97 ≤ c) = false := decide_eq_false (by omega)
        have d2 : decide ((c : Int) ≤ 122) = true := decide_eq_true (by omega)
        have d2' : decide (c ≤ 122) = true := decide_eq_true (by omega)
        have d3 : decide (48 ≤ (c : Int)) = true := decide_eq_true (by omega)
        have d3' : decide (48 ≤ c) = true := decide_eq_true (by omega)
        have d4 : decide ((c : Int) ≤ 57) = false := decide_eq_false (by omega)
        have d4' : decide (c ≤ 57) = false := decide_eq_false (by omega)
        have d5 : ((c : Int) == 45) = false := by first | (rw [beq_iff_eq]; omega) | (rw [beq_eq_false_iff_ne]; omega)
        have d6 : ((c : Int) == 58) = true := by first | (rw [beq_iff_eq]; omega) | (rw [beq_eq_false_iff_ne]; omega)
        have d7 : ((k : Int) == 0) = true := by first | (rw [beq_iff_eq]; omega) | (rw [beq_eq_false_iff_ne]; omega)
        have d8 : decide ((1 : Int) < (n : Int)) = true := decide_eq_true (by omega)
        have d8' : decide (1 < n) = true := decide_eq_true (by omega)
        have hnc : nchar n k c = true := by unfold nchar; simp; omega
        have hyes : Hid ((List.range (k + 1)).all (fun k => nchar n k (s.data.toList.getD k 0).toNat) = true) := Lib.hid (by rw [all_snoc, HA.out, hcl, hnc]; rfl)
        replace hcl := Lib.hid hcl
        replace hnc := Lib.hid hnc
        clear HA h
        go_wp2
        go_roundw
        case rel => exact ⟨k + 1, by omega, by go_num, by first | rfl | trivial, hyes⟩
        case measure => simp [intOf]; omega
      · have d1 : decide (97 ≤ (c : Int)) = false := decide_eq_false (by omega)
        have d1' : decide (97 ≤ c) = false := decide_eq_false (by omega)
        have d2 : decide ((c : Int) ≤ 122) = true := decide_eq_true (by omega)
        have d2' : decide (c ≤ 122) = true := decide_eq_true (by omega)
        have d3 : decide (48 ≤ (c : Int)) = true := decide_eq_true (by omega)
        have d3' : decide (48 ≤ c) = true := decide_eq_true (by omega)
        have d4 : decide ((c : Int) ≤ 57) = false := decide_eq_false (by omega)
        have d4' : decide (c ≤ 57) = false := decide_eq_false (by omega)
        have d5 : ((c : Int) == 45) = false := by first | (rw [beq_iff_eq]; omega) | (rw [beq_eq_false_iff_ne]; omega)
        have d6 : ((c : Int) == 58) = false := by first | (rw [beq_iff_eq]; omega) | (rw [beq_eq_false_iff_ne]; omega)
        have hnc : nchar n k c = false := by unfold nchar; simp; omega
        have hno := Lib.hid (all_no (fun k => nchar n k (s.data.toList.getD k 0).toNat) n k hkn (by simp only [hcl]; exact hnc))
        replace hcl := Lib.hid hcl
        replace hnc := Lib.hid hnc
        clear h
        go_wp2
        go_ret
        refine ⟨ret_bool ?_, rfl⟩
        unfold nameok; rw [hn, hno.out]; rfl
      · have d1 : decide (97 ≤ (c : Int)) = true := decide_eq_true (by omega)
        have d1' : decide (97 ≤ c) = true := decide_eq_true (by omega)
        have d2 : decide ((c : Int) ≤ 122) = true := decide_eq_true (by omega)
        have d2' : decide (c ≤ 122) = true := decide_eq_true (by omega)
        have d3 : decide (48 ≤ (c : Int)) = true := decide_eq_true (by omega)
        have d3' : decide (48 ≤ c) = true := decide_eq_true (by omega)
        have d4 : decide ((c : Int) ≤ 57) = false := decide_eq_false (by omega)
        have d4' : decide (c ≤ 57) = false := decide_eq_false (by omega)
        have d5 : ((c : Int) == 45) = false := by first | (rw [beq_iff_eq]; omega) | (rw [beq_eq_false_iff_ne]; omega)
        have d6 : ((c : Int) == 58) = false := by first | (rw [beq_iff_eq]; omega) | (rw [beq_eq_false_iff_ne]; omega)
        have hnc : nchar n k c = true := by unfold nchar; simp; omega
        have hyes : Hid ((List.range (k + 1)).all (fun k => nchar n k (s.data.toList.getD k 0).toNat) = true) := Lib.hid (by rw [all_snoc, HA.out, hcl, hnc]; rfl)
        replace hcl := Lib.hid hcl
        replace hnc := Lib.hid hnc
        clear HA h
        go_wp2
        go_roundw
        case rel => exact ⟨k + 1, by omega, by go_num, by first | rfl | trivial, hyes⟩
        case measure => simp [intOf]; omega
      · have d1 : decide (97 ≤ (c : Int)) = true := decide_eq_true (by omega)
        have d1' : decide (97 ≤ c) = true := decide_eq_true (by omega)
        have d2 : decide ((c : Int) ≤ 122) = false := decide_eq_false (by omega)
        have d2' : decide (c ≤ 122) = false := decide_eq_false (by omega)
        have d3 : decide (48 ≤ (c : Int)) = true := decide_eq_true (by omega)
        have d3' : decide (48 ≤ c) = true := decide_eq_true (by omega)
        have d4 : decide ((c : Int) ≤ 57) = false := decide_eq_false (by omega)
        have d4' : decide (c ≤ 57) = false := decide_eq_false (by omega)
        have d5 : ((c : Int) == 45) = false := by first | (rw [beq_iff_eq]; omega) | (rw [beq_eq_false_iff_ne]; omega)
        have d6 : ((c : Int) == 58) = false := by first | (rw [beq_iff_eq]; omega) | (rw [beq_eq_false_iff_ne]; omega)
        have hnc : nchar n k c = false := by unfold nchar; simp; omega
        have hno := Lib.hid (all_no (fun k => nchar n k (s.data.toList.getD k 0).toNat) n k hkn (by simp only [hcl]; exact hnc))
        replace hcl := Lib.hid hcl
        replace hnc := Lib.hid hnc
        clear h
        go_wp2
        go_ret
        refine ⟨ret_bool ?_, rfl⟩
        unfold nameok; rw [hn, hno.out]; rfl
    · have hk' : k = n := by omega
      have HB : Hid (nameok s = (decide (1 ≤ n) && decide (n ≤ 60))) := Lib.hid (by
        have := HA.out
        rw [hk'] at this
        unfold nameok; rw [hn, this, Bool.true_and])
      clear HA
      have h3 : n = 0 ∨ (1 ≤ n ∧ n ≤ 60) ∨ 60 < n := by omega
      rcases h3 with h | ⟨h, h2⟩ | h
      · have d1 : decide (1 ≤ n) = false := decide_eq_false (by omega)
        have d1' : decide ((1 : Int) ≤ (n : Int)) = false := decide_eq_false (by omega)
        rw [d1, Bool.false_and] at HB
        replace h := Lib.hid h
        go_wp2
        go_ret
        exact ⟨ret_bool HB.out.symm, rfl⟩
      · have d1 : decide (1 ≤ n) = true := decide_eq_true (by omega)
        have d1' : decide ((1 : Int) ≤ (n : Int)) = true := decide_eq_true (by omega)
        have d2 : decide (n ≤ 60) = true := decide_eq_true (by omega)
        have d2' : decide ((n : Int) ≤ 60) = true := decide_eq_true (by omega)
        rw [d1, d2, Bool.true_and] at HB
        go_wp2
        go_ret
        exact ⟨ret_bool HB.out.symm, rfl⟩
      · have d1 : decide (1 ≤ n) = true := decide_eq_true (by omega)
        have d1' : decide ((1 : Int) ≤ (n : Int)) = true := decide_eq_true (by omega)
        have d2 : decide (n ≤ 60) = false := decide_eq_false (by omega)
        have d2' : decide ((n : Int) ≤ 60) = false := decide_eq_false (by omega)
        rw [d1, d2, Bool.true_and] at HB
        go_wp2
        go_ret
        exact ⟨ret_bool HB.out.symm, rfl⟩
end Go.Proofs.YtdldipkbknhhoaaDoor
