/- fields, plain law: what is laid is read as it was. -/
import Derived.Test.YtjkimabcpamdcaaFdI
namespace Go.Proofs.Ytjkimabcpamdcaa
open Go.RowKit

theorem phead_mul (f : Int) (b : Nat) : phead f b = 2 ^ b * (f / 2 ^ b) := by
  have := Int.emod_add_mul_ediv f (2 ^ b)
  unfold phead; omega
theorem head_div (f : Int) (b : Nat) (x : Int) (hb1 : 1 ≤ b) (hb8 : b ≤ 8) (hx0 : 0 ≤ x) (hx : x ≤ 2 ^ b - 1) : (phead f b + x) / 2 ^ b = f / 2 ^ b := by
  have hP := pmost_bd b hb1 hb8
  rw [phead_mul, Int.add_comm, Int.add_mul_ediv_left _ _ (by omega), Int.ediv_eq_zero_of_lt hx0 (by omega)]
  omega
theorem pput_head (f : Int) (b : Nat) (n : Int) (h0 : 0 ≤ f) (h1 : f ≤ 255) (hb1 : 1 ≤ b) (hb8 : b ≤ 8) (hn0 : 0 ≤ n) :
    ∃ x r, pput f b n = x :: r ∧ (x.toNat : Int) / 2 ^ b = f / 2 ^ b := by
  have hP := pmost_bd b hb1 hb8
  unfold pput
  by_cases hlt : n < pmost b
  · rw [if_pos hlt]
    unfold pmost at hlt
    refine ⟨_, _, rfl, ?_⟩
    rw [(head_mod f b n h0 h1 hb1 hb8 hn0 (by omega)).1, head_div f b n hb1 hb8 hn0 (by omega)]
  · rw [if_neg hlt]
    refine ⟨_, _, rfl, ?_⟩
    unfold pmost
    rw [(head_mod f b (2 ^ b - 1) h0 h1 hb1 hb8 (by omega) (by omega)).1, head_div f b _ hb1 hb8 (by omega) (by omega)]
theorem pclr_bit (f : Int) (b : Nat) (h0 : 0 ≤ f) (h1 : f ≤ 255) (hb1 : 1 ≤ b) (hb7 : b ≤ 7) : pclr f b / 2 ^ b % 2 = 0 := by
  have hb : b = 1 ∨ b = 2 ∨ b = 3 ∨ b = 4 ∨ b = 5 ∨ b = 6 ∨ b = 7 := by omega
  unfold pclr
  rcases hb with rfl | rfl | rfl | rfl | rfl | rfl | rfl <;> simp only [Int.reducePow] <;> omega

theorem pgettext_ptext (f : Int) (b : Nat) (s t : List UInt8) (h0 : 0 ≤ f) (h1 : f ≤ 255) (hb1 : 1 ≤ b) (hb7 : b ≤ 7) (hs : s.length ≤ 2000) :
    pgettext b (ptext f b s ++ t) = (s, ((ptext f b s).length : Int), 0) := by
  have hc := pclr_bd f b h0 h1 hb1 hb7
  have hg := pget_pput (pclr f b) b s.length (s ++ t) hc.1 hc.2 hb1 (by omega) (by omega) (by omega)
  obtain ⟨x, r, he, hx⟩ := pput_head (pclr f b) b s.length hc.1 hc.2 hb1 (by omega) (by omega)
  rw [pclr_bit f b h0 h1 hb1 hb7 |> fun h => show pclr f b / 2 ^ b = pclr f b / 2 ^ b from rfl] at hx
  have hbit := pclr_bit f b h0 h1 hb1 hb7
  have ht : ptext f b s ++ t = pput (pclr f b) b s.length ++ (s ++ t) := by unfold ptext; simp
  have hl : (ptext f b s).length = (pput (pclr f b) b s.length).length + s.length := by unfold ptext; simp
  rw [ht, hl]
  generalize pput (pclr f b) b s.length = p at he hg
  have hd : (p ++ (s ++ t)).drop p.length = s ++ t := by simp
  have hlen : (p ++ (s ++ t)).length = p.length + (s.length + t.length) := by simp
  subst he
  have key : ∀ q : List UInt8, (∃ r', q = x :: r') → pgettext b q = if (x.toNat : Int) / 2 ^ b % 2 = 1 then ([], 0, 6)
    else if (pget b q).2.2 ≠ 0 then ([], 0, (pget b q).2.2)
    else if 2000 < (pget b q).1 then ([], 0, 4)
    else if (q.length : Int) - (pget b q).2.1 < (pget b q).1 then ([], 0, 3)
    else ((q.drop (pget b q).2.1.toNat).take (pget b q).1.toNat, (pget b q).2.1 + (pget b q).1, 0) := by
    rintro q ⟨r', rfl⟩; rfl
  rw [key _ ⟨_, List.cons_append⟩, hg, hx, hbit, if_neg (by omega), if_neg (by simp), if_neg (by simp only []; omega), if_neg (by rw [hlen]; simp only []; omega)]
  simp only [Int.toNat_natCast, hd, List.take_left', Prod.mk.injEq]
  refine ⟨by simp, by omega, trivial⟩
theorem txt_back (v : ByteArray) : (⟨v.data.toList.toArray⟩ : ByteArray) = v := by simp
theorem ptxt_ptext (f : Int) (b : Nat) (v : ByteArray) (t : List UInt8) (h0 : 0 ≤ f) (h1 : f ≤ 255) (hb1 : 1 ≤ b) (hb7 : b ≤ 7) (hs : v.size ≤ 2000) :
    ptxt b (ptext f b v.data.toList ++ t) 0 = (t, 0, v) := by
  unfold ptxt
  rw [if_neg (by omega), pgettext_ptext f b _ t h0 h1 hb1 hb7 (by rw [data_length]; exact hs)]
  simp only [Int.toNat_natCast, List.drop_left', txt_back]
theorem pval_ptext (v : ByteArray) (t : List UInt8) (hs : v.size ≤ 400) (hv : valok v = true) : pval (ptext 0 7 v.data.toList ++ t) 0 = (t, 0, v) := by
  unfold pval
  rw [ptxt_ptext 0 7 v t (by omega) (by omega) (by omega) (by omega) (by omega)]
  rw [if_neg (by simp), if_neg (by simp only []; omega), if_pos hv]
theorem fixed_len : fixed.length = 16 := by decide
theorem pnum_pput (f : Int) (b k : Nat) (t : List UInt8) (h0 : 0 ≤ f) (h1 : f ≤ 255) (hb1 : 1 ≤ b) (hb8 : b ≤ 8) (hk : k < 16) :
    pnum b (pput f b k ++ t) = (t, 0, fixed.getD k fdz) := by
  unfold pnum
  rw [pget_pput f b k t h0 h1 hb1 hb8 (by omega) (by omega), if_neg (by simp), if_neg (by simp only []; omega)]
  simp only [Int.toNat_natCast, List.drop_left']
theorem fi_some {q : Fd → Bool} {k : Nat} (h : fixed.findIdx? q = some k) : k < 16 ∧ q (fixed.getD k fdz) = true := by
  obtain ⟨hk, hq, _⟩ := List.findIdx?_eq_some_iff_getElem.1 h
  rw [fixed_len] at hk
  refine ⟨hk, ?_⟩
  rw [List.getD_eq_getElem?_getD, List.getElem?_eq_getElem (by rw [fixed_len]; exact hk), Option.getD_some]
  exact hq
theorem nat_head {x : UInt8} {b : Nat} {f : Int} (h : (x.toNat : Int) / 2 ^ b = f / 2 ^ b) (g : Nat) (hg : f / 2 ^ b = (g : Int)) : x.toNat / 2 ^ b = g := by
  rw [hg] at h
  have e : ((x.toNat / 2 ^ b : Nat) : Int) = (g : Int) := by rw [Int.natCast_ediv, Int.natCast_pow]; exact h
  exact Int.ofNat.inj e
theorem pln_fline (f : Fd) (t : List UInt8) (hf : fok f = true) (hv : f.value.size ≤ 400) : pln (fline f ++ t) = (t, 0, f) := by
  unfold fok at hf
  rw [Bool.and_eq_true] at hf
  have hn60 := nameok_size hf.1
  have hpv := pval_ptext f.value t hv hf.2
  unfold fline
  split
  · rename_i k hk
    obtain ⟨h16, hq⟩ := fi_some hk
    have hq := of_decide_eq_true hq
    have hp := pnum_pput 192 6 k t (by omega) (by omega) (by omega) (by omega) h16
    obtain ⟨x, r, he, hx⟩ := pput_head 192 6 k (by omega) (by omega) (by omega) (by omega) (by omega)
    have hx := nat_head hx 3 (by decide)
    rw [he] at hp ⊢
    rw [List.cons_append] at hp ⊢
    simp only [Nat.reducePow] at hx
    rw [pln.eq_2]
    rw [if_pos hx, hp, hq]
  · unfold fhead
    split
    · rename_i k hk
      obtain ⟨h16, hq⟩ := fi_some hk
      have hq := of_decide_eq_true hq
      have hp := pnum_pput 80 4 k (ptext 0 7 f.value.data.toList ++ t) (by omega) (by omega) (by omega) (by omega) h16
      obtain ⟨x, r, he, hx⟩ := pput_head 80 4 k (by omega) (by omega) (by omega) (by omega) (by omega)
      have hx := nat_head hx 5 (by decide)
      rw [List.append_assoc]
      rw [he] at hp ⊢
      rw [List.cons_append] at hp ⊢
      simp only [Nat.reducePow] at hx
      rw [pln.eq_2]
      rw [if_neg (by omega), if_pos hx, hp]
      simp only [hpv, hq]
    · have hp := ptxt_ptext 32 3 f.name (ptext 0 7 f.value.data.toList ++ t) (by omega) (by omega) (by omega) (by omega) (by omega)
      have hc : pclr 32 3 = 32 := by decide
      obtain ⟨x, r, he, hx⟩ := pput_head 32 3 f.name.data.toList.length (by omega) (by omega) (by omega) (by omega) (by omega)
      have hx := nat_head hx 4 (by decide)
      rw [List.append_assoc]
      unfold ptext at hp ⊢
      rw [hc, he] at hp ⊢
      simp only [List.cons_append, Nat.reducePow] at hp hx ⊢
      rw [pln.eq_2]
      unfold ptext at hpv
      rw [if_neg (by omega), if_neg (by omega), if_pos (by omega), hp]
      simp only [hf.1]
      rw [if_neg (by simp), hpv]
theorem fline_pos (f : Fd) : 1 ≤ (fline f).length := by
  unfold fline
  split
  · exact pput_pos _ _ _
  · rw [List.length_append]; unfold fhead
    split
    · have := pput_pos 80 4 (‹Nat› : Int); omega
    · unfold ptext; rw [List.length_append]; have := pput_pos (pclr 32 3) 3 f.name.data.toList.length; omega
theorem fgl_lines : ∀ (fs : List Fd) (n : Nat) (u : List UInt8) (acc : List Fd), (∀ f ∈ fs, fok f = true ∧ f.value.size ≤ 400) → acc.length + fs.length ≤ 16 →
    fgl (n + fs.length) (flines fs ++ u) acc = fgl n u (acc ++ fs)
  | [], n, u, acc, _, _ => by simp [flines]
  | f :: fs, n, u, acc, h, hl => by
    have hp := pln_fline f (flines fs ++ u) (h f (by simp)).1 (h f (by simp)).2
    have e : flines (f :: fs) ++ u = fline f ++ (flines fs ++ u) := by simp [flines]
    rw [e]
    have hpos := fline_pos f
    simp only [List.length_cons] at hl
    cases hq : fline f with
    | nil => rw [hq] at hpos; simp at hpos
    | cons x r =>
      rw [hq] at hp
      rw [List.cons_append] at hp ⊢
      rw [show n + (f :: fs).length = (n + fs.length) + 1 from rfl, fgl_cons, if_neg (by omega), hp, if_neg (by simp)]
      rw [fgl_lines fs n u (acc ++ [f]) (fun g hg => h g (by simp [hg])) (by rw [List.length_append]; simp only [List.length_cons, List.length_nil]; omega)]
      rw [List.append_assoc]; rfl
theorem fget_flines (fs : List Fd) (h : ∀ f ∈ fs, fok f = true ∧ f.value.size ≤ 400) (hl : fs.length ≤ 16) : fget (0 :: 0 :: flines fs) = (fs, 0) := by
  have := fgl_lines fs (17 - fs.length) [] [] h (by simpa using hl)
  rw [show 17 - fs.length + fs.length = 17 by omega, List.append_nil, fgl_nil] at this
  unfold fget
  rw [if_neg (by simp), if_neg (by simp)]
  exact this
theorem fput_ok (fs : List Fd) (h : ∀ f ∈ fs, fok f = true ∧ f.value.size ≤ 400) (hl : fs.length ≤ 16) : fput fs = (0 :: 0 :: flines fs, 0) := by
  unfold fput
  rw [if_neg, if_pos]
  · rw [List.all_eq_true]; exact fun f hf => (h f hf).1
  · rw [Bool.or_eq_true, decide_eq_true_eq, List.any_eq_true]
    rintro (h1 | ⟨f, hf, h2⟩)
    · omega
    · have := (h f hf).2
      have := of_decide_eq_true h2
      omega
theorem flines_append (fs gs : List Fd) : flines (fs ++ gs) = flines fs ++ flines gs := by simp [flines]
end Go.Proofs.Ytjkimabcpamdcaa
