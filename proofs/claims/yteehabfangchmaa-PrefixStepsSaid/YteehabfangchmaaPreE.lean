/- Plain laws of texts behind bits: what is laid is read as it was; cut anywhere it is too short; the other bits of the first byte. -/
import Derived.Test.YteehabfangchmaaPreD
namespace Go.Proofs.Yteehabfangchmaa
open Go.RowKit

theorem phead_mul (f : Int) (b : Nat) : phead f b = 2 ^ b * (f / 2 ^ b) := by
  have := Int.emod_add_mul_ediv f (2 ^ b)
  unfold phead; omega
theorem head_div (f : Int) (b : Nat) (x : Int) (hb1 : 1 ≤ b) (hb8 : b ≤ 8) (hx0 : 0 ≤ x) (hx : x ≤ 2 ^ b - 1) : (phead f b + x) / 2 ^ b = f / 2 ^ b := by
  have hP := pmost_bd b hb1 hb8
  rw [phead_mul, Int.add_comm, Int.add_mul_ediv_left _ _ (by omega), Int.ediv_eq_zero_of_lt hx0 (by omega)]
  omega
theorem pput_head (f : Int) (b : Nat) (n : Int) (h0 : 0 ≤ f) (h1 : f ≤ 255) (hb1 : 1 ≤ b) (hb8 : b ≤ 8) (hn0 : 0 ≤ n) :
    ∃ x r, pput f b n = x :: r ∧ (x.toNat : Int) / 2 ^ b = f / 2 ^ b := by
  have hP := pmost_bd b hb1 hb8
  unfold pput
  by_cases hlt : n < pmost b
  · rw [if_pos hlt]
    unfold pmost at hlt
    refine ⟨_, _, rfl, ?_⟩
    rw [(head_mod f b n h0 h1 hb1 hb8 hn0 (by omega)).1, head_div f b n hb1 hb8 hn0 (by omega)]
  · rw [if_neg hlt]
    refine ⟨_, _, rfl, ?_⟩
    unfold pmost
    rw [(head_mod f b (2 ^ b - 1) h0 h1 hb1 hb8 (by omega) (by omega)).1, head_div f b _ hb1 hb8 (by omega) (by omega)]
theorem pclr_bit (f : Int) (b : Nat) (h0 : 0 ≤ f) (h1 : f ≤ 255) (hb1 : 1 ≤ b) (hb7 : b ≤ 7) : pclr f b / 2 ^ b % 2 = 0 := by
  have hb : b = 1 ∨ b = 2 ∨ b = 3 ∨ b = 4 ∨ b = 5 ∨ b = 6 ∨ b = 7 := by omega
  unfold pclr
  rcases hb with rfl | rfl | rfl | rfl | rfl | rfl | rfl <;> simp only [Int.reducePow] <;> omega

theorem pgettext_ptext (f : Int) (b : Nat) (s t : List UInt8) (h0 : 0 ≤ f) (h1 : f ≤ 255) (hb1 : 1 ≤ b) (hb7 : b ≤ 7) (hs : s.length ≤ 2000) :
    pgettext b (ptext f b s ++ t) = (s, ((ptext f b s).length : Int), 0) := by
  have hc := pclr_bd f b h0 h1 hb1 hb7
  have hg := pget_pput (pclr f b) b s.length (s ++ t) hc.1 hc.2 hb1 (by omega) (by omega) (by omega)
  obtain ⟨x, r, he, hx⟩ := pput_head (pclr f b) b s.length hc.1 hc.2 hb1 (by omega) (by omega)
  rw [pclr_bit f b h0 h1 hb1 hb7 |> fun h => show pclr f b / 2 ^ b = pclr f b / 2 ^ b from rfl] at hx
  have hbit := pclr_bit f b h0 h1 hb1 hb7
  have ht : ptext f b s ++ t = pput (pclr f b) b s.length ++ (s ++ t) := by unfold ptext; simp
  have hl : (ptext f b s).length = (pput (pclr f b) b s.length).length + s.length := by unfold ptext; simp
  rw [ht, hl]
  generalize pput (pclr f b) b s.length = p at he hg
  have hd : (p ++ (s ++ t)).drop p.length = s ++ t := by simp
  have hlen : (p ++ (s ++ t)).length = p.length + (s.length + t.length) := by simp
  subst he
  have key : ∀ q : List UInt8, (∃ r', q = x :: r') → pgettext b q = if (x.toNat : Int) / 2 ^ b % 2 = 1 then ([], 0, 6)
    else if (pget b q).2.2 ≠ 0 then ([], 0, (pget b q).2.2)
    else if 2000 < (pget b q).1 then ([], 0, 4)
    else if (q.length : Int) - (pget b q).2.1 < (pget b q).1 then ([], 0, 3)
    else ((q.drop (pget b q).2.1.toNat).take (pget b q).1.toNat, (pget b q).2.1 + (pget b q).1, 0) := by
    rintro q ⟨r', rfl⟩; rfl
  rw [key _ ⟨_, List.cons_append⟩, hg, hx, hbit, if_neg (by omega), if_neg (by simp), if_neg (by simp only []; omega), if_neg (by rw [hlen]; simp only []; omega)]
  simp only [Int.toNat_natCast, hd, List.take_left', Prod.mk.injEq]
  refine ⟨by simp, by omega, trivial⟩
theorem pgettext_cut (f : Int) (b : Nat) (s : List UInt8) (j : Nat) (h0 : 0 ≤ f) (h1 : f ≤ 255) (hb1 : 1 ≤ b) (hb7 : b ≤ 7) (hs : s.length ≤ 2000) (hj : j < (ptext f b s).length) :
    pgettext b ((ptext f b s).take j) = ([], 0, 3) := by
  have hc := pclr_bd f b h0 h1 hb1 hb7
  have hg := fun t => pget_pput (pclr f b) b s.length t hc.1 hc.2 hb1 (by omega) (by omega) (by omega)
  have hcut := fun j hj => pget_cut (pclr f b) b s.length j hc.1 hc.2 hb1 (by omega) (by omega) (by omega) hj
  obtain ⟨x, r, he, hx⟩ := pput_head (pclr f b) b s.length hc.1 hc.2 hb1 (by omega) (by omega)
  have hbit := pclr_bit f b h0 h1 hb1 hb7
  have ht : ptext f b s = pput (pclr f b) b s.length ++ s := rfl
  rw [ht] at hj ⊢
  generalize pput (pclr f b) b s.length = p at he hg hcut hj
  subst he
  have key : ∀ q : List UInt8, (∃ r', q = x :: r') → pgettext b q = if (x.toNat : Int) / 2 ^ b % 2 = 1 then ([], 0, 6)
    else if (pget b q).2.2 ≠ 0 then ([], 0, (pget b q).2.2)
    else if 2000 < (pget b q).1 then ([], 0, 4)
    else if (q.length : Int) - (pget b q).2.1 < (pget b q).1 then ([], 0, 3)
    else ((q.drop (pget b q).2.1.toNat).take (pget b q).1.toNat, (pget b q).2.1 + (pget b q).1, 0) := by
    rintro q ⟨r', rfl⟩; rfl
  match j, hj with
  | 0, _ => rfl
  | j + 1, hj =>
    by_cases hlt : j + 1 < (x :: r).length
    · rw [List.take_append_of_le_length (by omega)]
      rw [key _ ⟨_, List.take_succ_cons⟩, hcut _ hlt, hx, hbit, if_neg (by omega), if_pos (by simp)]
    · have e : ((x :: r) ++ s).take (j + 1) = (x :: r) ++ s.take (j + 1 - (x :: r).length) := by
        rw [List.take_append]
        rw [List.take_of_length_le (by omega)]
      rw [e, key _ ⟨_, List.cons_append⟩, hg, hx, hbit, if_neg (by omega), if_neg (by simp), if_neg (by simp only []; omega), if_pos]
      simp only [List.length_append, List.length_take] at hj ⊢
      omega
end Go.Proofs.Yteehabfangchmaa
