/- prefix.Put, PutText and GetText: contracts at bits from 1 to 8 (texts: 7), numbers up to MaxVar. -/
import Derived.Test.YtjkimabcpamdcaaPreP
import Derived.Test.YtjkimabcpamdcaaStr
namespace Go.Proofs.Ytjkimabcpamdcaa
open Go.RowKit

set_option maxHeartbeats 400000 in
theorem pput_any (l : List UInt8) (f : Int) (b : Nat) (n : Int) (A : Option Addr) (c : Nat) (w : World) (hr : Rd w A (bv l)) (hl : l.length ≤ 70368744177664) (hf0 : 0 ≤ f) (hf1 : f ≤ 255) (hb1 : 1 ≤ b) (hb8 : b ≤ 8) (hn0 : 0 ≤ n) (hn1 : n ≤ 4611686018427387903) :
    Calls Try.prog 24 #[.slice A l.length c, .int .u8 f, .int .i64 b, .int .u64 n] w (RetS 5 w (l ++ pput f b n).length (bv (l ++ pput f b n))) := by
  have C := Lib.hid (pputs_any l f b n A c w hr hl hf0 hf1 hb1 hb8 hn0 (by omega))
  obtain ⟨out, he⟩ : ∃ o, l ++ pput f b n = o := ⟨_, rfl⟩
  rw [he] at C ⊢
  clear he
  go_enter Try.func24, Try.ntmps24
  go_wp2_with fail
  refine C.out.mono ?_
  rintro e w' ⟨A', c', rfl, hown, hbel⟩
  go_wp2_with fail
  go_ret
  exact ⟨A', c', rfl, hown, hbel⟩

/-- The first byte of a text: the bit above those of its length is none. -/
def pclr (f : Int) (b : Nat) : Int := f - f / 2 ^ b % 2 * 2 ^ b
theorem pclr_bd (f : Int) (b : Nat) (h0 : 0 ≤ f) (h1 : f ≤ 255) (hb1 : 1 ≤ b) (hb7 : b ≤ 7) : 0 ≤ pclr f b ∧ pclr f b ≤ 255 := by
  have hb : b = 1 ∨ b = 2 ∨ b = 3 ∨ b = 4 ∨ b = 5 ∨ b = 6 ∨ b = 7 := by omega
  unfold pclr
  rcases hb with rfl | rfl | rfl | rfl | rfl | rfl | rfl <;> simp only [Int.reducePow] <;> omega
theorem andnot_clr (f : Int) (b : Nat) (h0 : 0 ≤ f) (h1 : f ≤ 255) (hb1 : 1 ≤ b) (hb7 : b ≤ 7) : bits .andNot .u8 f ((2 : Int) ^ b) = pclr f b := by
  obtain ⟨F, rfl⟩ := Int.eq_ofNat_of_zero_le h0
  have key : ∀ b : Fin 8, 1 ≤ b.val → ∀ x : Fin 256, ((x.val &&& (255 - 2 ^ b.val) : Nat) : Int) = pclr x.val b.val := by decide +kernel
  have hp2 : 2 ^ b ≤ 2 ^ 7 := Nat.pow_le_pow_right (by omega) hb7
  have e : (2 : Int) ^ b = ((2 ^ b : Nat) : Int) := by simp
  rw [e, u8_andNot_nat _ _ (by omega) (by omega)]
  exact key ⟨b, by omega⟩ hb1 ⟨F, by omega⟩

def ptext (f : Int) (b : Nat) (s : List UInt8) : List UInt8 := pput (pclr f b) b s.length ++ s

set_option maxRecDepth 100000 in
set_option maxHeartbeats 400000 in
theorem ptext_any (l : List UInt8) (f : Int) (b : Nat) (s : ByteArray) (A : Option Addr) (c : Nat) (w : World) (hr : Rd w A (bv l)) (hl : l.length ≤ 35184372088832) (hf0 : 0 ≤ f) (hf1 : f ≤ 255) (hb1 : 1 ≤ b) (hb7 : b ≤ 7) (hs : s.size ≤ 35184372088832) :
    Calls Try.prog 25 #[.slice A l.length c, .int .u8 f, .int .i64 b, .string s] w (RetS 5 w (l ++ ptext f b s.data.toList).length (bv (l ++ ptext f b s.data.toList))) := by
  have hP := pmost_bd b hb1 (by omega)
  have hcl := pclr_bd f b hf0 hf1 hb1 hb7
  have hand := andnot_clr f b hf0 hf1 hb1 hb7
  have hlen : s.data.toList.length = s.size := by rw [Array.length_toList]; rfl
  have HT : l ++ ptext f b s.data.toList = (l ++ pput (pclr f b) b s.size) ++ s.data.toList := by unfold ptext; rw [hlen]; simp
  rw [HT]
  have C := Lib.hid (fun W h => pputs_any l (pclr f b) b s.size A c W h (by omega) hcl.1 hcl.2 hb1 (by omega) (by omega) (by omega))
  have hol : (pput (pclr f b) b s.size).length ≤ 11 := pput_len _ _ _
  have hpl : (l ++ pput (pclr f b) b s.size).length ≤ 35184372088832 + 11 := by rw [List.length_append]; omega
  obtain ⟨g, hg⟩ : ∃ g, pclr f b = g := ⟨_, rfl⟩
  rw [hg] at hand hcl hpl C ⊢
  obtain ⟨out, he⟩ : ∃ o, l ++ pput g b s.size = o := ⟨_, rfl⟩
  rw [he] at C hpl ⊢
  obtain ⟨P, hPe⟩ : ∃ P, (2 : Int) ^ b = P := ⟨_, rfl⟩
  rw [hPe] at hP hand
  have hPb : P ≤ 128 := by
    rw [← hPe]
    have : b = 1 ∨ b = 2 ∨ b = 3 ∨ b = 4 ∨ b = 5 ∨ b = 6 ∨ b = 7 := by omega
    rcases this with rfl | rfl | rfl | rfl | rfl | rfl | rfl <;> decide
  have HL := Lib.hid hlen
  clear hg he HT hol hlen
  go_enter Try.func25, Try.ntmps25
  go_wp2_with fail
  refine (C.out _ hr).mono ?_
  rintro e w1 ⟨A1, c1, rfl, hown, hbel⟩
  have hsz := hbel.size
  go_wp2_with (at_builtin; refine Hid.out ?_)
  refine Lib.hid ?_
  refine wpList_apps _ rfl _ _ 26 9 (by rfl) w.heap.size 5 infoB Try.underlying26 Try.underlying9 (.slice A1 out.length c1) out.length (bv out) (by rfl) hown s (by rfl) (by omega) (by omega) ?_
  intro A2 c2 w2 hown2 hgrow2
  have F := (Fr.of_below hbel NoS).grown hgrow2 (fun k hk hlt => by have := (hown.lt k hk).1; omega)
  go_wp2
  go_ret
  refine ⟨A2, c2, by rw [List.length_append, HL.out]; rfl, ?_, Fr.below F⟩
  rw [List.length_append, HL.out, bv_append]
  exact hown2

/-- What a text's bytes tell. -/
def pgettext (b : Nat) (l : List UInt8) : List UInt8 × Int × Int :=
  match l with
  | [] => ([], 0, 3)
  | x :: _ =>
    if (x.toNat : Int) / 2 ^ b % 2 = 1 then ([], 0, 6)
    else if (pget b l).2.2 ≠ 0 then ([], 0, (pget b l).2.2)
    else if 2000 < (pget b l).1 then ([], 0, 4)
    else if (l.length : Int) - (pget b l).2.1 < (pget b l).1 then ([], 0, 3)
    else ((l.drop (pget b l).2.1.toNat).take (pget b l).1.toNat, (pget b l).2.1 + (pget b l).1, 0)
def tpgettext (b : Nat) (l : List UInt8) : Value := .tuple #[.string ⟨(pgettext b l).1.toArray⟩, .int .i64 (pgettext b l).2.1, .int .i64 (pgettext b l).2.2]

theorem shr_bit (x b : Nat) (hx : x < 256) (hb1 : 1 ≤ b) (h7 : b ≤ 7) : bits .and .u8 ((x : Int) / 2 ^ b) 1 = (x : Int) / 2 ^ b % 2 := by
  have h1 : (x : Int) / 2 ^ b = ((x / 2 ^ b : Nat) : Int) := by simp
  have h2 : x / 2 ^ b ≤ x := Nat.div_le_self _ _
  rw [h1, show (1 : Int) = ((1 : Nat) : Int) from rfl, u8_and_nat _ _ (by omega) (by omega), Nat.and_one_is_mod]
  omega
theorem ploop_ok : ∀ (f k : Nat) (n : Int) (l : List UInt8), 0 ≤ n → (ploop f k n l).2.2 = 0 → 0 ≤ (ploop f k n l).1 ∧ (ploop f k n l).1 ≤ 4611686018427387903 ∧ (k : Int) + 1 ≤ (ploop f k n l).2.1 ∧ (ploop f k n l).2.1 ≤ k + l.length := by
  intro f
  induction f with
  | zero => intro k n l _ h; simp [ploop] at h
  | succ f ih =>
    intro k n l hn h
    match l with
    | [] => simp [ploop] at h
    | c :: r =>
      have hT : 0 ≤ (c.toNat : Int) % 128 * 2 ^ (7 * (k - 1)) := Int.mul_nonneg (by omega) (Int.pow_nonneg (by omega))
      simp only [ploop] at h ⊢
      by_cases h1 : 4611686018427387903 < n + (c.toNat : Int) % 128 * 2 ^ (7 * (k - 1))
      · rw [if_pos h1] at h; simp at h
      · rw [if_neg h1] at h ⊢
        by_cases h2 : c.toNat < 128
        · rw [if_pos h2]; simp only [List.length_cons]; omega
        · rw [if_neg h2] at h ⊢
          have := ih (k + 1) _ r (by omega) h
          simp only [List.length_cons]
          omega
theorem pget_ok (b : Nat) (x : UInt8) (r : List UInt8) (hb1 : 1 ≤ b) (hb8 : b ≤ 8) (h : (pget b (x :: r)).2.2 = 0) : 0 ≤ (pget b (x :: r)).1 ∧ (pget b (x :: r)).1 ≤ 4611686018427387903 ∧ 1 ≤ (pget b (x :: r)).2.1 ∧ (pget b (x :: r)).2.1 ≤ r.length + 1 := by
  have hP := pmost_bd b hb1 hb8
  have hx := UInt8.toNat_lt x
  have h0 := Int.emod_nonneg (x.toNat : Int) (show (2 : Int) ^ b ≠ 0 by omega)
  have h1 := Int.emod_lt_of_pos (x.toNat : Int) (show (0 : Int) < 2 ^ b by omega)
  simp only [pget] at h ⊢
  by_cases hlt : (x.toNat : Int) % 2 ^ b < pmost b
  · rw [if_pos hlt]; simp only []; omega
  · rw [if_neg hlt] at h ⊢
    have := ploop_ok 9 1 _ r h0 h
    omega

set_option maxRecDepth 100000 in
set_option maxHeartbeats 2000000 in
theorem gettext_cons (x : UInt8) (r : List UInt8) (b : Nat) (A : Option Addr) (c : Nat) (w : World) (hb1 : 1 ≤ b) (hb7 : b ≤ 7) (hr : Rd w A (bv (x :: r))) (hm : r.length + 1 ≤ 140737488355328) (hc : r.length + 1 ≤ c) (hcc : c ≤ 9223372036854775807) :
    Calls Try.prog 38 #[.slice A (r.length + 1) c, .int .i64 b] w fun e w' => e = .returned (tpgettext b (x :: r)) ∧ w = w' := by
  have C := Lib.hid (pget_any (x :: r) b A c w hb1 (by omega) hr hm)
  have HOK := Lib.hid (pget_ok b x r hb1 (by omega))
  have HD := Lib.hid (fun k (h : k ≤ (bv (x :: r)).length) => hr.drop (k := k) (cap := c) h (by simpa using hc))
  obtain ⟨bl, off, rfl, hcell⟩ := hr (by simp)
  have h0 := hcell 0 _ (bv_get (k := 0) (by simp))
  simp only [List.getElem_cons_zero, Nat.add_zero] at h0
  clear hcell
  have hx := UInt8.toNat_lt x
  have hP := pmost_bd b hb1 (by omega)
  have hz : ((r.length : Int) + 1 == 0) = false := by rw [beq_eq_false_iff_ne]; omega
  have hand := shr_bit x.toNat b hx hb1 hb7
  have HG : pgettext b (x :: r) = if (x.toNat : Int) / 2 ^ b % 2 = 1 then ([], 0, 6)
    else if (pget b (x :: r)).2.2 ≠ 0 then ([], 0, (pget b (x :: r)).2.2)
    else if 2000 < (pget b (x :: r)).1 then ([], 0, 4)
    else if ((x :: r).length : Int) - (pget b (x :: r)).2.1 < (pget b (x :: r)).1 then ([], 0, 3)
    else (((x :: r).drop (pget b (x :: r)).2.1.toNat).take (pget b (x :: r)).1.toNat, (pget b (x :: r)).2.1 + (pget b (x :: r)).1, 0) := rfl
  obtain ⟨t, hte⟩ : ∃ t, (x.toNat : Int) / 2 ^ b % 2 = t := ⟨_, rfl⟩
  rw [hte] at hand HG
  have ht : t = 0 ∨ t = 1 := by omega
  obtain ⟨g, hge⟩ : ∃ g, pget b (x :: r) = g := ⟨_, rfl⟩
  rw [hge] at C HOK HG
  obtain ⟨N, a, e⟩ := g
  simp only [] at HG HOK
  replace HG := Lib.hid HG
  clear hte hge
  unfold tpgettext
  rcases ht with rfl | rfl
  · by_cases he : e = 0
    · subst he
      obtain ⟨hN0, hN1, ha1, ha2⟩ := HOK.out rfl
      obtain ⟨n, rfl⟩ := Int.eq_ofNat_of_zero_le hN0
      obtain ⟨a, rfl⟩ := Int.eq_ofNat_of_zero_le (show 0 ≤ a by omega)
      by_cases hb : 2000 < (n : Int)
      · have HE := Lib.hid (HG.out.trans (by rw [if_neg (by omega), if_neg (by simp), if_pos hb]))
        go_enter Try.func38, Try.ntmps38
        go_wp2_with fail
        refine C.out.mono ?_
        rintro e w' ⟨rfl, rfl⟩
        simp only [ptup]
        go_wp2_with fail
        go_ret3
        exact ⟨by rw [HE.out]; rfl, rfl⟩
      · by_cases hsh : (r.length : Int) + 1 - a < n
        · have HE := Lib.hid (HG.out.trans (by rw [if_neg (by omega), if_neg (by simp), if_neg hb, if_pos (by simpa using hsh)]))
          go_enter Try.func38, Try.ntmps38
          go_wp2_with fail
          refine C.out.mono ?_
          rintro e w' ⟨rfl, rfl⟩
          simp only [ptup]
          go_wp2_with fail
          go_ret3
          exact ⟨by rw [HE.out]; rfl, rfl⟩
        · have hd := HD.out a (by simp; omega)
          have htk := hd.take n
          rw [← bv_drop, ← bv_take] at htk
          have hlen : (((x :: r).drop a).take n).length = n := by simp; omega
          have HE : pgettext b (x :: r) = (((x :: r).drop a).take n, (a : Int) + n, 0) := HG.out.trans (by rw [if_neg (by omega), if_neg (by simp), if_neg hb, if_neg (by simpa using hsh)]; rfl)
          have hconv := run_conv_bytes (P := Try.prog) (src := 26) (dst := 9) (e := 5) Try.underlying26 Try.underlying5 Try.underlying9 (c := c - a) htk
          rw [hlen] at hconv
          rw [HE]
          generalize ((x :: r).drop a).take n = out at hconv
          clear HE HG htk hd hlen HD
          obtain ⟨S, hSe⟩ : ∃ S : ByteArray, (⟨out.toArray⟩ : ByteArray) = S := ⟨_, rfl⟩
          simp only [hSe] at hconv ⊢
          clear hSe
          by_cases hca : c = a
          · subst hca
            have hn0 : n = 0 := by omega
            subst hn0
            rw [if_pos rfl] at hconv
            simp only [Nat.sub_self] at hconv
            go_enter Try.func38, Try.ntmps38
            go_wp2_with fail
            refine C.out.mono ?_
            rintro e w' ⟨rfl, rfl⟩
            simp only [ptup]
            go_wp2_with fail
            go_ret3
            exact ⟨rfl, rfl⟩
          · rw [if_neg hca] at hconv
            simp only [Option.map_some, WideShapes.add_plain] at hconv
            go_enter Try.func38, Try.ntmps38
            go_wp2_with fail
            refine C.out.mono ?_
            rintro e w' ⟨rfl, rfl⟩
            simp only [ptup]
            go_wp2_with fail
            go_ret3
            exact ⟨rfl, rfl⟩
    · have HE := Lib.hid (HG.out.trans (by rw [if_neg (by omega), if_pos he]))
      have hne : (e != 0) = true := by rw [bne_iff_ne]; exact he
      clear he
      go_enter Try.func38, Try.ntmps38
      go_wp2_with fail
      refine C.out.mono ?_
      rintro e w' ⟨rfl, rfl⟩
      simp only [ptup]
      go_wp2_with fail
      go_ret3
      exact ⟨by rw [HE.out]; rfl, rfl⟩
  · have HE := Lib.hid (HG.out.trans (by rw [if_pos rfl]))
    go_enter Try.func38, Try.ntmps38
    go_wp2_with fail
    go_ret3
    exact ⟨by rw [HE.out]; rfl, rfl⟩

theorem gettext_any (l : List UInt8) (b : Nat) (A : Option Addr) (c : Nat) (w : World) (hb1 : 1 ≤ b) (hb7 : b ≤ 7) (hr : Rd w A (bv l)) (hm : l.length ≤ 140737488355328) (hc : l.length ≤ c) (hcc : c ≤ 9223372036854775807) :
    Calls Try.prog 38 #[.slice A l.length c, .int .i64 b] w fun e w' => e = .returned (tpgettext b l) ∧ w = w' := by
  match l, hr, hm, hc with
  | [], _, _, _ =>
    go_enter Try.func38, Try.ntmps38
    go_wp2
    go_ret3
    exact ⟨rfl, rfl⟩
  | x :: r, hr, hm, hc => exact gettext_cons x r b A c w hb1 hb7 hr hm hc hcc
end Go.Proofs.Ytjkimabcpamdcaa
