/- OutgoAllows: the plain law, and the walk. -/
import Derived.Test.YtljpboikjhckiaaOutK
namespace Go.Proofs.Ytljpboikjhckiaa
open Go.RowKit

/-- s bytes are x (of others none), e: what the end is. -/
def asf (x : UInt8) (n s : Nat) (e : UInt8) (i : Nat) : UInt8 := if i < s then x else if i = n then e else 0
theorem asf_lt {x : UInt8} {n s i : Nat} {e : UInt8} (h : i < s) : asf x n s e i = x := by rw [asf, if_pos h]
theorem asf_end {x : UInt8} {n s : Nat} {e : UInt8} (h : s ≤ n) : asf x n s e n = e := by rw [asf, if_neg (by omega), if_pos rfl]
theorem asf_mid {x : UInt8} {n s i : Nat} {e : UInt8} (h : s ≤ i) (hi : i < n) : asf x n s e i = 0 := by rw [asf, if_neg (by omega), if_neg (by omega)]
theorem asf_ne {x y : UInt8} {n s i : Nat} {e : UInt8} (hx : x ≠ y) (hy : 0 ≠ y) (hi : i < n) : asf x n s e i ≠ y := by
  by_cases h : i < s
  · rw [asf_lt h]; exact hx
  · rw [asf_mid (by omega) hi]; exact hy
/-- s bytes are sent; e: what the end is. -/
def ast (n s : Nat) (e : UInt8) : List UInt8 := mk n (asf 1 n s e)
theorem ast_new (n : Nat) : ast n 0 0 = mk n fun _ => 0 := mk_ext fun i hi => by
  by_cases h : i = n
  · subst h; exact asf_end (Nat.zero_le _)
  · exact asf_mid (Nat.zero_le _) (by omega)
theorem ast_sent (n s : Nat) (e : UInt8) (h : s ≤ n) : cntNe ((ast n s e).take n) 0 = s :=
  mk_cnt_pre h (fun i hi => by rw [asf_lt hi]; decide) (fun i h1 h2 => asf_mid h1 h2)
/-- A step that sends m bytes. -/
theorem ast_step {D : List UInt8} {n s m : Nat} {room allow : Int} (hs : s < n) (hroom : 1 ≤ room) (ha : (s : Int) < allow) (hm : (m : Int) = min room (min allow n - s)) :
    oNext D (ast n s 0) n room allow = ((s : Int), (D.drop s).take m, decide (s + m = n), true, ast n (s + m) (if s + m = n then 1 else 0)) := by
  have hend : asf 1 n s 0 n = 0 := asf_end (by omega)
  have := mk_next_new (D := D) (n := n) (a := s) (r := n - s) (f := asf 1 n s 0) (room := room) (allow := allow) hroom (fun j hj => asf_ne (by decide) (by decide) hj) (by rw [hend]; decide) (fun j hj => by rw [asf_lt hj]; decide) hs ha (fun j h1 h2 => asf_mid h1 (by omega)) (by omega) (by omega) (fun h => by omega) m (by omega)
  unfold ast
  rw [this, hend, decide_eq_true (rfl : (0 : UInt8) = 0), Bool.and_true]
  congr 4
  apply mk_ext
  intro i hi
  simp only [and_true, asf]
  (repeat' split) <;> first | rfl | omega
theorem ast_stop {D : List UInt8} {n s : Nat} {room allow : Int} (hs : s < n) (ha : allow ≤ s) : oNext D (ast n s 0) n room allow = (0, [], false, false, ast n s 0) :=
  mk_next_none (a := s) (fun j hj => asf_ne (by decide) (by decide) hj) (by rw [asf_end (by omega)]; decide) (fun j hj => by rw [asf_lt hj]; decide) (by omega) (fun _ => ⟨asf_mid (Nat.le_refl _) hs, ha⟩) (fun h => by omega)
theorem ast_told {D : List UInt8} {n : Nat} {room allow : Int} : oNext D (ast n n 1) n room allow = (0, [], false, false, ast n n 1) :=
  mk_next_none (a := n) (fun j hj => asf_ne (by decide) (by decide) hj) (by rw [asf_end (Nat.le_refl _)]; decide) (fun j hj => by rw [asf_lt hj]; decide) (by omega) (fun h => by omega) (fun _ => by rw [asf_end (Nat.le_refl _)]; decide)
theorem ast_empty {D : List UInt8} {room allow : Int} : oNext D (ast 0 0 0) 0 room allow = (0, [], true, true, ast 0 0 1) := by
  have := mk_next_end (D := D) (n := 0) (f := asf 1 0 0 0) (room := room) (allow := allow) (fun j hj => by omega) (.inr ⟨rfl, fun j hj => by omega⟩)
  exact this
theorem ast_told' {D : List UInt8} {n s : Nat} {room allow : Int} (h : s = n) : oNext D (ast n s 1) n room allow = (0, [], false, false, ast n s 1) := by subst h; exact ast_told
theorem ast_empty' {D : List UInt8} {n s : Nat} {room allow : Int} (h : s = n) (h0 : n = 0) : oNext D (ast n s 0) n room allow = (0, [], true, true, ast n s 1) := by subst h h0; exact ast_empty
/-- What the last part of the law finds. -/
theorem ast_lost (n s : Nat) (e : UInt8) (hs : s ≤ n) (he : e = 0 ∨ e = 1) : oturn (ast n s e) n 0 n false 2 [1] = mk n (asf 2 n s e) := by
  unfold ast
  rw [mk_turn, onorm_pos (by omega)]
  apply mk_ext
  intro i hi
  rw [turn_eval]
  by_cases h1 : i < s
  · rw [asf_lt h1, asf_lt h1, if_pos ⟨.inl ⟨by omega, by omega, by omega, by omega⟩, by decide⟩]
  · rw [show asf 2 n s e i = asf 1 n s e i from by rw [asf, asf, if_neg h1, if_neg h1], if_neg]
    rintro ⟨h2, h3⟩
    rcases h2 with h2 | ⟨_, h2⟩
    · rw [asf_mid (by omega) h2.1] at h3; revert h3; decide
    · cases h2
theorem ast_again {D : List UInt8} {n s : Nat} {e : UInt8} (hs : s ≤ n) (hs0 : 0 < s) : ∃ eb S', oNext D (mk n (asf 2 n s e)) n n (-5) = (0, D.take s, eb, true, S') ∧ cntNe (S'.take n) 0 = s := by
  have := mk_next_lost (D := D) (n := n) (a := 0) (r := s) (f := asf 2 n s e) (room := n) (allow := -5) (by omega) (fun j hj => by omega) (by omega) (fun j _ hj => asf_lt (by omega)) hs0 (by omega) (fun h => by rw [asf_mid (by omega) h]; decide) s (by omega)
  rw [List.drop_zero] at this
  refine ⟨_, _, this, ?_⟩
  exact mk_cnt_pre hs (fun i hi => by rw [if_pos ⟨Nat.zero_le _, by omega⟩]; decide) (fun i h1 h2 => by rw [if_neg (by omega), if_neg (by omega), asf_mid h1 h2])
theorem ast_again0 {D : List UInt8} {n : Nat} {e : UInt8} (he : e = 0 ∨ e = 1) (hn : 0 < n → e = 0) : ∃ a l eb ok S', oNext D (mk n (asf 2 n 0 e)) n n (-5) = (a, l, eb, ok, S') ∧ cntNe (S'.take n) 0 = 0 ∧ l.length = 0 := by
  by_cases h0 : n = 0
  · subst h0
    rcases he with rfl | rfl
    · exact ⟨_, _, _, _, _, mk_next_end (fun j hj => by omega) (.inr ⟨rfl, fun j hj => by omega⟩), rfl, rfl⟩
    · exact ⟨_, _, _, _, _, mk_next_none (a := 0) (fun j hj => by omega) (by decide) (fun j hj => by omega) (by omega) (fun h => by omega) (fun _ => by decide), rfl, rfl⟩
  · have he0 := hn (by omega)
    subst he0
    refine ⟨_, _, _, _, _, mk_next_none (a := 0) (fun j hj => by rw [asf_mid (by omega) hj]; decide) (by rw [asf_end (by omega)]; decide) (fun j hj => by omega) (by omega) (fun _ => ⟨asf_mid (by omega) (by omega), by omega⟩) (fun h => by omega), ?_, rfl⟩
    exact mk_cnt_pre (by omega) (fun i hi => by omega) (fun i h1 h2 => asf_mid h1 h2)
end Go.Proofs.Ytljpboikjhckiaa
