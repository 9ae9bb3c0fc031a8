/- prefix.put and prefix.Put lay each number of 64 bits behind a slice of bytes, in new memory, at bits from 1 to 8. (A slice of at most 2 to the 46 bytes.) -/
import Derived.Test.YtjkimabcpamdcaaPreA
import Derived.Test.YtjkimabcpamdcaaCopied
namespace Go.Proofs.Ytjkimabcpamdcaa
open Go.RowKit

def phead (f : Int) (b : Nat) : Int := f - f % 2 ^ b
def pcont : Nat → Int → List UInt8
  | 0, n => [UInt8.ofNat n.toNat]
  | f + 1, n => if n < 128 then [UInt8.ofNat n.toNat] else UInt8.ofNat (n.toNat % 128 + 128) :: pcont f (n / 128)
def pput (f : Int) (b : Nat) (n : Int) : List UInt8 :=
  if n < pmost b then [UInt8.ofNat (phead f b + n).toNat] else UInt8.ofNat (phead f b + pmost b).toNat :: pcont 9 (n - pmost b)

theorem phead_bd (f : Int) (b : Nat) (h0 : 0 ≤ f) (h1 : f ≤ 255) (hb1 : 1 ≤ b) (hb8 : b ≤ 8) : 0 ≤ phead f b ∧ phead f b + (2 ^ b - 1) ≤ 255 ∧ ∃ a : Nat, phead f b = ((2 ^ b * a : Nat) : Int) := by
  obtain ⟨F, rfl⟩ := Int.eq_ofNat_of_zero_le h0
  have hb : b = 1 ∨ b = 2 ∨ b = 3 ∨ b = 4 ∨ b = 5 ∨ b = 6 ∨ b = 7 ∨ b = 8 := by omega
  unfold phead
  rcases hb with rfl | rfl | rfl | rfl | rfl | rfl | rfl | rfl <;> simp only [Int.reducePow, Nat.reducePow] <;> refine ⟨by omega, by omega, ?_⟩
  · exact ⟨F / 2, by omega⟩
  · exact ⟨F / 4, by omega⟩
  · exact ⟨F / 8, by omega⟩
  · exact ⟨F / 16, by omega⟩
  · exact ⟨F / 32, by omega⟩
  · exact ⟨F / 64, by omega⟩
  · exact ⟨F / 128, by omega⟩
  · exact ⟨F / 256, by omega⟩
theorem andnot_most (f : Int) (b : Nat) (h0 : 0 ≤ f) (h1 : f ≤ 255) (hb1 : 1 ≤ b) (hb8 : b ≤ 8) : bits .andNot .u8 f ((2 : Int) ^ b - 1) = phead f b := by
  obtain ⟨F, rfl⟩ := Int.eq_ofNat_of_zero_le h0
  have hF : F < 256 := by omega
  have hb : b = 1 ∨ b = 2 ∨ b = 3 ∨ b = 4 ∨ b = 5 ∨ b = 6 ∨ b = 7 ∨ b = 8 := by omega
  have key : ∀ b : Fin 9, 1 ≤ b.val → ∀ x : Fin 256, ((x.val &&& (255 - (2 ^ b.val - 1)) : Nat) : Int) = phead x.val b.val := by decide +kernel
  have hp : 1 ≤ 2 ^ b := Nat.one_le_two_pow
  have hp2 : 2 ^ b ≤ 2 ^ 8 := Nat.pow_le_pow_right (by omega) hb8
  have e : (2 : Int) ^ b - 1 = ((2 ^ b - 1 : Nat) : Int) := by rw [Int.natCast_sub hp]; simp
  rw [e, u8_andNot_nat _ _ (by omega) (by omega)]
  exact key ⟨b, by omega⟩ hb1 ⟨F, hF⟩
theorem or_head (h n : Int) (b : Nat) (hb8 : b ≤ 8) (hn0 : 0 ≤ n) (hn : n < 2 ^ b) (hh : h + n ≤ 255) (ha : ∃ a : Nat, h = ((2 ^ b * a : Nat) : Int)) : bits .or .u8 h n = h + n := by
  obtain ⟨a, rfl⟩ := ha
  obtain ⟨N, rfl⟩ := Int.eq_ofNat_of_zero_le hn0
  have hN : N < 2 ^ b := by exact_mod_cast hn
  have e2 := Nat.two_pow_add_eq_or_of_lt hN a
  have hp2 : 2 ^ b ≤ 2 ^ 8 := Nat.pow_le_pow_right (by omega) hb8
  rw [u8_or_nat _ _ (by omega) (by omega), ← e2]
  omega
theorem or_more (n : Int) (h0 : 0 ≤ n) : bits .or .u8 (n % 256) 128 = n % 128 + 128 := by
  obtain ⟨N, rfl⟩ := Int.eq_ofNat_of_zero_le h0
  have key : ∀ x : Fin 256, x.val ||| 128 = x.val % 128 + 128 := by decide +kernel
  have e : (N : Int) % 256 = ((N % 256 : Nat) : Int) := by omega
  rw [e, show (128 : Int) = ((128 : Nat) : Int) from rfl, u8_or_nat _ _ (by omega) (by omega), key ⟨N % 256, by omega⟩]
  simp only
  omega
theorem ofNat_val (x : Int) (h0 : 0 ≤ x) (h : x ≤ 255) : ((UInt8.ofNat x.toNat).toNat : Int) = x := by
  rw [UInt8.toNat_ofNat', Nat.mod_eq_of_lt (by omega)]; omega
theorem bv_snoc (l : List UInt8) (x : Int) (h0 : 0 ≤ x) (h : x ≤ 255) : bv l ++ [.int .u8 x] = bv (l ++ [UInt8.ofNat x.toNat]) := by
  rw [bv_append]; simp only [bv, List.map_cons, List.map_nil, ofNat_val x h0 h]

/-- One byte more, in a round or ahead of it. -/
theorem put_one {E B : Nat} {w0 wr w' : World} {acc : List UInt8} {v : Value} {A' : Option Addr} {c' : Nat} {x : Int} {o : Obj} (h0 : 0 ≤ x) (h : x ≤ 255) (hF : Fr NoS w0 wr) (hB : w0.heap.size ≤ B)
    (hown : wr.ownsRow B E 1 v acc.length (bv acc))
    (hown' : w'.ownsRow B E 1 (.slice A' (acc.length + 1) c') (acc.length + 1) (bv acc ++ [.int .u8 x])) (hg : (wr.alloc o).grownBy w' v.ownBlock) :
    w'.ownsRow B E 1 (.slice A' (acc ++ [UInt8.ofNat x.toNat]).length c') (acc ++ [UInt8.ofNat x.toNat]).length (bv (acc ++ [UInt8.ofNat x.toNat])) ∧ Fr NoS w0 w' := by
  refine ⟨?_, (hF.alloc o).grown hg fun j hj hlt => by have := (hown.lt j hj).1; omega⟩
  rw [List.length_append, ← bv_snoc acc x h0 h]; exact hown'

theorem pcont_last (f : Nat) (n : Int) (h : n < 128) : pcont f n = [UInt8.ofNat n.toNat] := by
  cases f with
  | zero => rfl
  | succ f => simp only [pcont]; rw [if_pos h]
theorem pcont_more (f : Nat) (n : Int) (h0 : 0 ≤ n) (h : ¬ n < 128) : pcont (f + 1) n = UInt8.ofNat (n % 128 + 128).toNat :: pcont f (n / 128) := by
  simp only [pcont]
  rw [if_neg h]
  have e : (n % 128 + 128).toNat = n.toNat % 128 + 128 := by omega
  rw [e]

set_option maxRecDepth 100000 in
set_option maxHeartbeats 2000000 in
theorem pputs_any (l : List UInt8) (f : Int) (b : Nat) (n : Int) (A : Option Addr) (c : Nat) (w : World) (hr : Rd w A (bv l)) (hl : l.length ≤ 70368744177664) (hf0 : 0 ≤ f) (hf1 : f ≤ 255) (hb1 : 1 ≤ b) (hb8 : b ≤ 8) (hn0 : 0 ≤ n) (hn1 : n ≤ 18446744073709551615) :
    Calls Try.prog 36 #[.slice A l.length c, .int .u8 f, .int .i64 b, .int .u64 n] w (RetS 5 w (l ++ pput f b n).length (bv (l ++ pput f b n))) := by
  have hP := pmost_bd b hb1 hb8
  obtain ⟨hd0, hd1, hda⟩ := phead_bd f b hf0 hf1 hb1 hb8
  have hand := andnot_most f b hf0 hf1 hb1 hb8
  have HP : pput f b n = if n < 2 ^ b - 1 then [UInt8.ofNat (phead f b + n).toNat] else UInt8.ofNat (phead f b + (2 ^ b - 1)).toNat :: pcont 9 (n - (2 ^ b - 1)) := rfl
  have HOR := Lib.hid (fun x (h0 : 0 ≤ x) (h : x < 2 ^ b) (h2 : phead f b + x ≤ 255) => or_head (phead f b) x b hb8 h0 h h2 hda)
  clear hda
  obtain ⟨P, hPe⟩ : ∃ P, (2 : Int) ^ b = P := ⟨_, rfl⟩
  rw [hPe] at hP hand HP HOR hd1
  obtain ⟨hd, hde⟩ : ∃ h, phead f b = h := ⟨_, rfl⟩
  rw [hde] at hand HP HOR hd0 hd1
  obtain ⟨out, houte⟩ : ∃ o, pput f b n = o := ⟨_, rfl⟩
  rw [houte] at HP ⊢
  replace HP := Lib.hid HP
  clear hde houte
  by_cases hlt : n < P - 1
  · have hor := HOR.out n hn0 (by omega) (by omega)
    go_enter Try.func36, Try.ntmps36
    go_wp2_with (at_builtin; refine Hid.out ?_)
    refine Lib.hid ?_
    refine wpList_app _ rfl _ _ 26 (by rfl) w.heap.size 5 (.int .u8 0) 1 infoB Try.underlying26 rfl (.slice none 0 0) 0 [] (by rfl) (World.ownsRow_nil _ _ _ _) A l.length c (bv l) (by rfl) (by simp) hr (bv_one l) (by unfold maxLen; omega) (by omega) (Nat.le_refl _) ?_
    intro A1 c1 w1 hown hgrow _
    have F := (Fr.refl NoS w).grown hgrow (fun k hk => by simp [Value.ownBlock] at hk)
    simp only [Nat.zero_add, List.nil_append] at hown
    clear hgrow
    go_wp2_with (at_builtin; refine Hid.out ?_)
    refine Lib.hid ?_
    refine wpList_app _ rfl _ _ 26 (by rfl) w.heap.size 5 (.int .u8 0) 1 infoB Try.underlying26 rfl (.slice A1 l.length c1) l.length (bv l) (by rfl) (hown.alloc _) (some ⟨w1.heap.size, 0, none⟩) 1 1 [.int .u8 (hd + n)] (by rfl) rfl (Rd.freshAt (by simp) _ _ rfl) (one_int _ _) (by unfold maxLen; omega) (by omega) (by have := F.size; simp; omega) ?_
    intro A2 c2 w2 hown2 hgrow2 _
    have R := put_one (x := hd + n) (by omega) (by omega) F (Nat.le_refl _) hown hown2 hgrow2
    go_wp2
    go_ret
    rw [HP.out, if_pos hlt]
    exact ⟨A2, c2, by rw [List.length_append]; rfl, R.1, Fr.below R.2⟩
  · have hor := HOR.out (P - 1) (by omega) (by omega) (by omega)
    go_enter Try.func36, Try.ntmps36
    go_wp2_with (at_builtin; refine Hid.out ?_)
    refine Lib.hid ?_
    refine wpList_app _ rfl _ _ 26 (by rfl) w.heap.size 5 (.int .u8 0) 1 infoB Try.underlying26 rfl (.slice none 0 0) 0 [] (by rfl) (World.ownsRow_nil _ _ _ _) A l.length c (bv l) (by rfl) (by simp) hr (bv_one l) (by unfold maxLen; omega) (by omega) (Nat.le_refl _) ?_
    intro A1 c1 w1 hown hgrow _
    have F := (Fr.refl NoS w).grown hgrow (fun k hk => by simp [Value.ownBlock] at hk)
    simp only [Nat.zero_add, List.nil_append] at hown
    clear hgrow
    go_wp2_with (at_builtin; refine Hid.out ?_)
    refine Lib.hid ?_
    refine wpList_app _ rfl _ _ 26 (by rfl) w.heap.size 5 (.int .u8 0) 1 infoB Try.underlying26 rfl (.slice A1 l.length c1) l.length (bv l) (by rfl) (hown.alloc _) (some ⟨w1.heap.size, 0, none⟩) 1 1 [.int .u8 (hd + (P - 1))] (by rfl) rfl (Rd.freshAt (by simp) _ _ rfl) (one_int _ _) (by unfold maxLen; omega) (by omega) (by have := F.size; simp; omega) ?_
    intro A2 c2 w2 hown2 hgrow2 _
    have R := put_one (x := hd + (P - 1)) (by omega) (by omega) F (Nat.le_refl _) hown hown2 hgrow2
    have HT : (l ++ [UInt8.ofNat (hd + (P - 1)).toNat]) ++ pcont 9 (n - (P - 1)) = l ++ out := by rw [HP.out, if_neg (by omega)]; simp
    have hl2 : (l ++ [UInt8.ofNat (hd + (P - 1)).toNat]).length = l.length + 1 := by simp
    rw [← hl2]
    generalize l ++ [UInt8.ofNat (hd + (P - 1)).toNat] = acc at R HT hl2 ⊢
    replace HT := Lib.hid HT
    clear hown hown2 hgrow2 F hor HP
    go_wp2_with fail
    go_loopw [9, 3] (fun v i wr => ∃ (g : Nat) (N : Int) (acc : List UInt8) (A' : Option Addr) (c' : Nat), g ≤ 9 ∧ acc.length + g ≤ l.length + 10 ∧ i = .int .u64 N ∧ 0 ≤ N ∧ N < 128 ^ (g + 1) ∧ v = .slice A' acc.length c' ∧ Hid (acc ++ pcont g N = l ++ out) ∧ wr.ownsRow w.heap.size 5 1 (.slice A' acc.length c') acc.length (bv acc) ∧ Fr NoS w wr) (fun _ i _ => (intOf i).toNat)
    case atStart => exact ⟨9, n - (P - 1), acc, A2, c2, by omega, by omega, rfl, by omega, by simp only [Int.reducePow, Nat.reduceAdd]; omega, by rw [hl2], HT, R.1, R.2⟩
    case round =>
      clear R HT hl2
      obtain ⟨g, N, acc, A3, c3, hg, hal, rfl, hN0, hN1, rfl, HT, hown, F⟩ := hrel
      by_cases hN : N < 128
      · have e128 : N % 256 = N := by omega
        go_wp2_with (at_builtin; refine Hid.out ?_)
        refine Lib.hid ?_
        refine wpList_app _ rfl _ _ 26 (by rfl) w.heap.size 5 (.int .u8 0) 1 infoB Try.underlying26 rfl (.slice A3 acc.length c3) acc.length (bv acc) (by rfl) (hown.alloc _) (some ⟨wr.heap.size, 0, none⟩) 1 1 [.int .u8 N] (by rfl) rfl (Rd.freshAt (by simp) _ _ rfl) (one_int _ _) (by unfold maxLen; omega) (by omega) (by have := F.size; simp; omega) ?_
        intro A4 c4 w4 hown4 hgrow4 _
        have R := put_one (x := N) (by omega) (by omega) F (Nat.le_refl _) hown hown4 hgrow4
        go_wp2
        go_ret
        rw [← HT.out, pcont_last g N hN]
        exact ⟨A4, c4, by rw [List.length_append]; rfl, R.1, Fr.below R.2⟩
      · obtain ⟨j, rfl⟩ : ∃ j, g = j + 1 := ⟨g - 1, by
          cases g with
          | zero => simp at hN1; omega
          | succ g => omega⟩
        have hor2 := or_more N hN0
        have HS : Hid ((acc ++ [UInt8.ofNat (N % 128 + 128).toNat]) ++ pcont j (N / 128) = l ++ out) := by
          have := HT.out
          rw [pcont_more j N hN0 hN] at this
          exact Lib.hid (by rw [← this]; simp)
        have hN2 : N / 128 < 128 ^ (j + 1) := by
          rw [Int.pow_succ] at hN1; exact Int.ediv_lt_of_lt_mul (by omega) hN1
        have HN2 := Lib.hid hN2
        clear hN2 hN1
        go_wp2_with (at_builtin; refine Hid.out ?_)
        refine Lib.hid ?_
        refine wpList_app _ rfl _ _ 26 (by rfl) w.heap.size 5 (.int .u8 0) 1 infoB Try.underlying26 rfl (.slice A3 acc.length c3) acc.length (bv acc) (by rfl) (hown.alloc _) (some ⟨wr.heap.size, 0, none⟩) 1 1 [.int .u8 (N % 128 + 128)] (by rfl) rfl (Rd.freshAt (by simp) _ _ rfl) (one_int _ _) (by unfold maxLen; omega) (by omega) (by have := F.size; simp; omega) ?_
        intro A4 c4 w4 hown4 hgrow4 _
        have R := put_one (x := N % 128 + 128) (by omega) (by omega) F (Nat.le_refl _) hown hown4 hgrow4
        clear hown hown4 hgrow4 F hor2
        go_wp2
        go_roundw
        case rel => exact ⟨j, N / 128, _, A4, c4, by omega, by simp; omega, rfl, by omega, HN2.out, by rw [List.length_append]; rfl, HS, R.1, R.2⟩
        case measure => simp [intOf]; omega
end Go.Proofs.Ytjkimabcpamdcaa
