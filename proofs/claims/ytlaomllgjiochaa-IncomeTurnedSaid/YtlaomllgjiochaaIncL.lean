/- IncomeTurns2: the plain law: an In that has all of its bytes, and its end. -/
import Derived.Test.YtlaomllgjiochaaIncK
namespace Go.Proofs.Ytlaomllgjiochaa
open Go.RowKit

/-- All is there, r bytes of it are read. -/
def ifull (m : Int) (l : List UInt8) (r : Nat) : Inc := ⟨m, l.length, r, l.length, l.map some⟩
theorem fills_all (l : List UInt8) : fills (List.replicate l.length none) 0 l l.length = l.map some := by
  apply List.ext_getElem?
  intro i
  by_cases hi : i < l.length
  · rw [fills_get _ _ _ _ _ (by simpa using hi), if_pos (by omega)]; simp [hi]
  · rw [List.getElem?_eq_none (by simp; omega), List.getElem?_eq_none (by simp; omega)]
theorem aclash_none (n : Nat) (l : List UInt8) : aclash (List.replicate n none) l = false := by
  induction n generalizing l with
  | zero => rfl
  | succ n ih => cases l with
    | nil => exact aclash_nil _
    | cons x l => simp only [List.replicate_succ, aclash]; exact ih l
theorem fresh_put (m : Int) (l : List UInt8) (h0 : 0 < l.length) (h : (l.length : Int) ≤ m) : iputr (inew m) 0 l true = 0 ∧ iputs (inew m) 0 l true = ifull m l 0 := by
  have hn : iputr (inew m) 0 l true = 0 := by
    unfold iputr
    rw [if_neg (by omega), if_neg (by simp only [inew]; omega), if_neg]
    simp [iclash, eclash, inew, aclash]
  refine ⟨hn, ?_⟩
  rw [iputs, if_pos hn]
  have hne : l ≠ [] := by intro e; simp [e] at h0
  simp only [iput, inew, ifull, hne, if_false, if_true, Int.toNat_zero]
  simp [fills_all]
theorem gc_full (l : List UInt8) : gc (l.map some) = List.replicate l.length true := by
  simp [gc, Function.comp_def, List.map_const']
theorem gb_full (l : List UInt8) : gb (l.map some) = l := by simp [gb, Function.comp_def]
theorem full_irdb (m : Int) (l : List UInt8) (r : Nat) : irdb (ifull m l r) = l.length - r := by
  simp only [irdb, ifull, gc_full, List.drop_replicate]
  have : ∀ n, (List.replicate n true).takeWhile id = List.replicate n true := fun n => by
    induction n with
    | zero => rfl
    | succ n ih => simp [List.replicate_succ, ih]
  rw [this]; simp
theorem full_whole (m : Int) (l : List UInt8) (r : Nat) (h : r ≤ l.length) : iwhole (ifull m l r) = true := by
  have e : (r : Int) + ((l.length - r : Nat) : Int) = l.length := by omega
  rw [iwhole, full_irdb, decide_eq_true (show 0 ≤ (ifull m l r).en from by show (0 : Int) ≤ l.length; omega), decide_eq_true (show ((ifull m l r).rd : Int) + _ = (ifull m l r).en from e)]; rfl
theorem full_ended (m : Int) (l : List UInt8) : iended (ifull m l l.length) = true := by
  rw [iended, full_whole _ _ _ (Nat.le_refl _)]; simp [ifull]
theorem full_read (m : Int) (l : List UInt8) (r : Nat) (x : Int) (hx : 0 ≤ x) (hr : r ≤ l.length) :
    ireadn (ifull m l r) x = min x.toNat (l.length - r) ∧ ibytes (ifull m l r) (min x.toNat (l.length - r)) = (l.drop r).take (min x.toNat (l.length - r)) ∧ iread (ifull m l r) x = ifull m l (r + min x.toNat (l.length - r)) := by
  have h1 : ireadn (ifull m l r) x = min x.toNat (l.length - r) := by unfold ireadn; rw [full_irdb]; omega
  refine ⟨h1, ?_, ?_⟩
  · simp only [ibytes, ifull, gb_full]
  · unfold iread; rw [h1]; rfl
theorem eclash_full (m : Int) (l : List UInt8) (r : Nat) (t : Int) (e : Bool) : eclash (ifull m l r) t e = true ↔ ((l.length : Int) < t ∨ (e = true ∧ t ≠ l.length)) := by
  unfold eclash; rw [eclash_iff]; simp only [ifull]; constructor
  · rintro (⟨_, h⟩ | ⟨h1, h2⟩)
    · rcases h with h | h
      · exact .inl h
      · exact .inr h
    · exact .inr ⟨h1, by omega⟩
  · intro h; exact .inl ⟨by omega, h⟩
/-- A piece that clashes by its end. -/
theorem full_end (m : Int) (l x : List UInt8) (r : Nat) (off : Nat) (e : Bool) (hb : (off : Int) + x.length ≤ m) (h : (l.length : Int) < (off : Int) + x.length ∨ (e = true ∧ (off : Int) + x.length ≠ l.length)) :
    iputr (ifull m l r) off x e = 12 ∧ iputs (ifull m l r) off x e = ifull m l r := by
  have hn : iputr (ifull m l r) off x e = 12 := by
    unfold iputr
    rw [if_neg (by omega), if_neg (by simp only [ifull]; omega), if_pos]
    rw [iclash, Int.toNat_natCast, (eclash_full m l r _ e).2 h, Bool.true_or]
  exact ⟨hn, by rw [iputs, if_neg (by rw [hn]; decide)]⟩
theorem full_bound (m : Int) (l x : List UInt8) (r : Nat) (off : Nat) (e : Bool) (hb : m < (off : Int) + x.length) :
    iputr (ifull m l r) off x e = 11 ∧ iputs (ifull m l r) off x e = ifull m l r := by
  have hn : iputr (ifull m l r) off x e = 11 := by
    unfold iputr
    rw [if_neg (by omega), if_pos (by simp only [ifull]; omega)]
  exact ⟨hn, by rw [iputs, if_neg (by rw [hn]; decide)]⟩
/-- What stands there, put in once more. -/
theorem aclash_same (l x : List UInt8) (off : Nat) (h : ∀ k, k < x.length → l[off + k]? = x[k]?) : aclash ((l.map some).drop off) x = false := by
  induction x generalizing off with
  | nil => exact aclash_nil _
  | cons b x ih =>
    have h0 := h 0 (by simp)
    simp only [Nat.add_zero, List.getElem?_cons_zero] at h0
    have hlt : off < l.length := (List.getElem?_eq_some_iff.1 h0).1
    rw [List.drop_eq_getElem_cons (by simpa using hlt)]
    have hb : l[off] = b := by rw [List.getElem?_eq_getElem hlt] at h0; injection h0
    simp only [List.getElem_map, aclash, hb]
    rw [ih (off + 1) (fun k hk => by have := h (k + 1) (by simp; omega); simpa [Nat.add_assoc, Nat.add_comm 1 k] using this)]
    simp
theorem fills_same (l x : List UInt8) (off : Nat) (h : ∀ k, k < x.length → l[off + k]? = x[k]?) : fills (l.map some) off x x.length = l.map some := by
  apply List.ext_getElem?
  intro i
  by_cases hi : i < l.length
  · rw [fills_get _ _ _ _ _ (by simpa using hi)]
    by_cases h2 : off ≤ i ∧ i < off + x.length
    · rw [if_pos h2]
      have := h (i - off) (by omega)
      rw [show off + (i - off) = i from by omega] at this
      rw [← this]; simp [hi]
    · rw [if_neg h2]
  · rw [List.getElem?_eq_none (by simp; omega), List.getElem?_eq_none (by simp; omega)]
theorem full_same (m : Int) (l x : List UInt8) (r : Nat) (off : Nat) (e : Bool) (hb : (off : Int) + x.length ≤ m) (h : off + x.length ≤ l.length) (he : e = true → off + x.length = l.length) (hs : ∀ k, k < x.length → l[off + k]? = x[k]?) :
    iputr (ifull m l r) off x e = 0 ∧ iputs (ifull m l r) off x e = ifull m l r := by
  have hn : iputr (ifull m l r) off x e = 0 := by
    unfold iputr
    rw [if_neg (by omega), if_neg (by simp only [ifull]; omega), if_neg]
    have h1 : eclash (ifull m l r) ((off : Int) + x.length) e = false := by
      rw [Bool.eq_false_iff]
      intro h2
      rcases (eclash_full m l r _ e).1 h2 with h3 | ⟨h3, h4⟩
      · omega
      · have := he h3; omega
    rw [iclash, Int.toNat_natCast, h1, show (ifull m l r).got = l.map some from rfl, aclash_same l x off hs]
    simp
  refine ⟨hn, ?_⟩
  rw [iputs, if_pos hn]
  have hg : (iput (ifull m l r) off x e).got = l.map some := by
    simp only [iput, ifull]
    split
    · rfl
    · rw [show off + x.length - (l.map some).length = 0 from by simp; omega]; simp [fills_same l x off hs]
  simp only [Int.toNat_natCast]
  unfold ifull at hg ⊢
  unfold iput at hg ⊢
  simp only at hg ⊢
  rw [hg]
  congr 1
  · split
    · rename_i h1; have := he h1; omega
    · rfl
  · split
    · rename_i h1; have := he h1; omega
    · split
      · rfl
      · omega
/-- Another byte than the one that stands there. -/
theorem full_other (m : Int) (l : List UInt8) (r : Nat) (off : Nat) (b : UInt8) (hb : (off : Int) + 1 ≤ m) (h : off < l.length) (hs : l[off]? ≠ some b) :
    iputr (ifull m l r) off [b] false = 12 ∧ iputs (ifull m l r) off [b] false = ifull m l r := by
  have hn : iputr (ifull m l r) off [b] false = 12 := by
    unfold iputr
    rw [if_neg (by omega), if_neg (by simp only [ifull, List.length_singleton]; omega), if_pos]
    have : aclash ((l.map some).drop off) [b] = true := by
      rw [List.drop_eq_getElem_cons (by simpa using h)]
      rw [List.getElem?_eq_getElem h] at hs
      simp only [List.getElem_map, aclash]
      rw [decide_eq_true (by intro e; exact hs (by rw [e]))]; rfl
    rw [iclash, Int.toNat_natCast, show (ifull m l r).got = l.map some from rfl, this, Bool.or_true]
  exact ⟨hn, by rw [iputs, if_neg (by rw [hn]; decide)]⟩
end Go.Proofs.Ytlaomllgjiochaa
