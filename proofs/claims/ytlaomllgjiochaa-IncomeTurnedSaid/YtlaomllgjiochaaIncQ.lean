/- income: the plain law of pieces of one and the same data. -/
import Derived.Test.YtlaomllgjiochaaIncL
namespace Go.Proofs.Ytlaomllgjiochaa
open Go.RowKit

def Has (s : Inc) (i : Nat) : Prop := ∃ x, s.got[i]? = some (some x)
/-- What came is of D; the end, if it is known, is D's. -/
structure Part (D : List UInt8) (s : Inc) : Prop where
  ok : s.Ok
  len : s.got.length ≤ D.length
  is : ∀ (i : Nat) (x : UInt8), s.got[i]? = some (some x) → D[i]? = some x
  en : s.en = -1 ∨ s.en = D.length
  hi : s.hi ≤ D.length
  most : (D.length : Int) ≤ s.most

theorem part_new (D : List UInt8) (m : Int) (h : (D.length : Int) ≤ m) (hm : m ≤ 1048576) : Part D (inew m) :=
  ⟨⟨by simp [inew]; omega, hm, by simp [inew], by simp [inew]; omega, by simp [inew], by simp [inew], by simp [inew]; omega, by simp [inew]; omega⟩, by simp [inew], by simp [inew], .inl rfl, by simp [inew], h⟩
theorem aclash_part {D : List UInt8} : ∀ (l : List UInt8) (g : List (Option UInt8)) (off : Nat), (∀ i x, g[i]? = some (some x) → D[off + i]? = some x) → (∀ k, k < l.length → D[off + k]? = l[k]?) → aclash g l = false := by
  intro l
  induction l with
  | nil => intro g off _ _; exact aclash_nil g
  | cons b l ih =>
    intro g off hg hl
    cases g with
    | nil => rfl
    | cons o g =>
      have hrec : aclash g l = false := ih g (off + 1)
        (fun i x hx => by have := hg (i + 1) x (by simpa using hx); rw [← this]; congr 1; omega)
        (fun k hk => by have := hl (k + 1) (by simp; omega); rw [List.getElem?_cons_succ] at this; rw [← this]; congr 1; omega)
      cases o with
      | none => exact hrec
      | some d =>
        have h1 := hg 0 d rfl
        have h2 := hl 0 (by simp)
        rw [h1] at h2
        simp only [List.getElem?_cons_zero] at h2
        injection h2 with h2
        simp [aclash, hrec, h2]

/-- Behind a piece of D. -/
theorem part_put {D l : List UInt8} {s : Inc} {off : Nat} {e : Bool} (h : Part D s) (hl : ∀ k, k < l.length → D[off + k]? = l[k]?) (hb : off + l.length ≤ D.length) (he : e = true → off + l.length = D.length) :
    iputr s off l e = 0 ∧ Part D (iputs s off l e) ∧ (∀ i, Has (iputs s off l e) i ↔ (Has s i ∨ (off ≤ i ∧ i < off + l.length))) ∧ (iputs s off l e).rd = s.rd ∧ (iputs s off l e).most = s.most ∧
      (iputs s off l e).en = (if e then (D.length : Int) else s.en) ∧ (iputs s off l e).hi = (if e then (D.length : Int) else if l = [] then s.hi else max s.hi ((off : Int) + l.length)) := by
  have h1 := h.most
  have h2 := h.len
  have h3 := h.hi
  have hn : iputr s off l e = 0 := by
    unfold iputr
    rw [if_neg (by omega), if_neg (by omega), if_neg]
    have h4 : eclash s ((off : Int) + l.length) e = false := by
      rw [Bool.eq_false_iff]
      unfold eclash
      intro h5
      rcases (eclash_iff _ _ _ _).1 h5 with ⟨h6, h7⟩ | ⟨h6, h7⟩
      · have h8 : s.en = D.length := by rcases h.en with h9 | h9 <;> omega
        rcases h7 with h7 | ⟨h7, h10⟩
        · omega
        · have := he h7; omega
      · have := he h6; omega
    have h5 : aclash (s.got.drop off) l = false := aclash_part l _ off (fun i x hx => h.is _ x (by rwa [List.getElem?_drop] at hx)) hl
    rw [iclash, Int.toNat_natCast, h4, h5]; simp
  have hs : iputs s off l e = iput s off l e := by rw [iputs, if_pos hn, Int.toNat_natCast]
  have hglen : (iput s off l e).got.length ≤ D.length := by
    simp only [iput]; split
    · exact h2
    · simp; omega
  have hget : ∀ i, (iput s off l e).got[i]? = if off ≤ i ∧ i < off + l.length then some l[i - off]? else if i < (iput s off l e).got.length then some (s.got[i]?.getD none) else none := by
    intro i
    simp only [iput]
    by_cases hle : l = []
    · subst hle
      simp only [if_true]
      rw [if_neg (by simp <;> omega)]
      by_cases hi : i < s.got.length
      · rw [if_pos hi]; simp [hi]
      · rw [if_neg hi]; simp; omega
    · simp only [hle, if_false]
      have hpos : 0 < l.length := List.length_pos_iff.2 hle
      by_cases hi : i < (s.got ++ List.replicate (off + l.length - s.got.length) none).length
      · rw [fills_get _ _ _ _ _ hi]
        by_cases h6 : off ≤ i ∧ i < off + l.length
        · rw [if_pos h6, if_pos h6]
        · rw [if_neg h6, if_neg h6, if_pos (by simpa using hi)]
          by_cases h7 : i < s.got.length
          · rw [List.getElem?_append_left h7]; simp [h7]
          · rw [List.getElem?_append_right (by omega)]
            simp at hi
            rw [List.getElem?_replicate, if_pos (by omega), List.getElem?_eq_none (l := s.got) (by omega)]; rfl
      · rw [if_neg, if_neg (by simpa using hi), List.getElem?_eq_none (by simpa using hi)]
        simp at hi; omega
  have hhas : ∀ i x, (iput s off l e).got[i]? = some (some x) ↔ ((off ≤ i ∧ i < off + l.length ∧ l[i - off]? = some x) ∨ (¬ (off ≤ i ∧ i < off + l.length) ∧ s.got[i]? = some (some x))) := by
    intro i x
    rw [hget i]
    by_cases h6 : off ≤ i ∧ i < off + l.length
    · rw [if_pos h6]
      constructor
      · intro h7; injection h7 with h7; exact .inl ⟨h6.1, h6.2, h7⟩
      · rintro (⟨_, _, h7⟩ | ⟨h7, _⟩)
        · rw [h7]
        · exact absurd h6 h7
    · rw [if_neg h6]
      have hlen2 : s.got.length ≤ (iput s off l e).got.length := by simp only [iput]; split <;> simp
      constructor
      · intro h7
        split at h7
        · refine .inr ⟨h6, ?_⟩
          injection h7 with h7
          rcases hx : s.got[i]? with _ | y
          · rw [hx] at h7; simp at h7
          · rw [hx] at h7; simp at h7; rw [h7]
        · cases h7
      · rintro (⟨h7, h8, _⟩ | ⟨_, h8⟩)
        · exact absurd ⟨h7, h8⟩ h6
        · have hi : i < s.got.length := (List.getElem?_eq_some_iff.1 h8).1
          rw [if_pos (by omega), h8]; rfl
  rw [hs]
  refine ⟨hn, ⟨iput_ok s off l e h.ok (by omega), hglen, ?_, ?_, ?_, h1⟩, ?_, rfl, rfl, ?_, ?_⟩
  · intro i x hx
    rcases (hhas i x).1 hx with ⟨h6, h7, h8⟩ | ⟨_, h8⟩
    · have := hl (i - off) (by omega)
      rw [show off + (i - off) = i from by omega] at this
      rw [this]; exact h8
    · exact h.is i x h8
  · simp only [iput]; split
    · rename_i h6; right; have := he h6; omega
    · exact h.en
  · simp only [iput]; split
    · rename_i h6; have := he h6; omega
    · split <;> omega
  · intro i
    constructor
    · rintro ⟨x, hx⟩
      rcases (hhas i x).1 hx with ⟨h6, h7, h8⟩ | ⟨_, h8⟩
      · exact .inr ⟨h6, h7⟩
      · exact .inl ⟨x, h8⟩
    · intro hx
      by_cases h6 : off ≤ i ∧ i < off + l.length
      · exact ⟨l[i - off]'(by omega), (hhas i _).2 (.inl ⟨h6.1, h6.2, List.getElem?_eq_getElem (by omega)⟩)⟩
      · rcases hx with ⟨x, hx⟩ | hx
        · exact ⟨x, (hhas i x).2 (.inr ⟨h6, hx⟩)⟩
        · exact absurd hx h6
  · simp only [iput]; split
    · rename_i h6; have := he h6; omega
    · rfl
  · simp only [iput]; split
    · rename_i h6; have := he h6; omega
    · rfl

/-- How far one may read. -/
theorem part_irdb {s : Inc} {n : Nat} (h1 : ∀ i, s.rd ≤ i → i < s.rd + n → Has s i) (h2 : ¬ Has s (s.rd + n)) : irdb s = n := by
  unfold irdb
  apply tw_len
  · intro j hj
    obtain ⟨x, hx⟩ := h1 (s.rd + j) (by omega) (by omega)
    rw [List.getElem?_drop, gc, List.getElem?_map, hx]; rfl
  · rw [List.getElem?_drop, gc, List.getElem?_map]
    intro h
    apply h2
    rcases hx : s.got[s.rd + n]? with _ | o
    · rw [hx] at h; cases h
    · rw [hx] at h
      cases o with
      | none => simp at h
      | some x => exact ⟨x, hx⟩
theorem has_lt {D : List UInt8} {s : Inc} (h : Part D s) {i : Nat} (hi : Has s i) : i < D.length := by
  obtain ⟨x, hx⟩ := hi
  have := (List.getElem?_eq_some_iff.1 hx).1
  have := h.len
  omega
theorem part_bytes {D : List UInt8} {s : Inc} (h : Part D s) {n : Nat} (h1 : ∀ i, s.rd ≤ i → i < s.rd + n → Has s i) : ibytes s n = (D.drop s.rd).take n := by
  apply List.ext_getElem?
  intro i
  unfold ibytes
  by_cases hi : i < n
  · rw [List.getElem?_take_of_lt hi, List.getElem?_take_of_lt hi, List.getElem?_drop, List.getElem?_drop, gb, List.getElem?_map]
    obtain ⟨x, hx⟩ := h1 (s.rd + i) (by omega) (by omega)
    rw [hx, h.is _ x hx]; rfl
  · rw [List.getElem?_eq_none (by simp; omega), List.getElem?_eq_none (by simp; omega)]
/-- All is there. -/
theorem part_all {D : List UInt8} {s : Inc} (h : Part D s) (hr : s.rd ≤ D.length) (ha : ∀ i, i < D.length → Has s i) (hen : s.en = D.length) :
    irdb s = D.length - s.rd ∧ iwhole s = true ∧ (∀ x : Int, 0 ≤ x → ireadn s x = min x.toNat (D.length - s.rd)) ∧ ∀ n, n ≤ D.length - s.rd → ibytes s n = (D.drop s.rd).take n := by
  have h1 : irdb s = D.length - s.rd := part_irdb (fun i _ hi => ha i (by omega)) (fun hh => by have := has_lt h hh; omega)
  refine ⟨h1, ?_, fun x hx => ?_, fun n hn => part_bytes h (fun i _ hi => ha i (by omega))⟩
  · rw [iwhole, h1, decide_eq_true (by omega), decide_eq_true (by omega)]; rfl
  · unfold ireadn; rw [h1]; omega
theorem part_read {D : List UInt8} {s : Inc} (h : Part D s) (x : Int) : Part D (iread s x) := ⟨iread_ok s x h.ok, h.len, h.is, h.en, h.hi, h.most⟩
theorem part_ended {D : List UInt8} {s : Inc} (h : Part D s) (hr : s.rd = D.length) (ha : ∀ i, i < D.length → Has s i) (hen : s.en = D.length) : iended s = true := by
  rw [iended, (part_all h (by omega) ha hen).2.1, decide_eq_true (by omega)]; rfl
end Go.Proofs.Ytlaomllgjiochaa
