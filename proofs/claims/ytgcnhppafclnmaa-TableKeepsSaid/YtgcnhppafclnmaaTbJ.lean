/- TableKeeps: what its states are, in plain words. -/
import Derived.Test.YtgcnhppafclnmaaTbH
import Derived.Test.YtgcnhppafclnmaaGrow
namespace Go.Proofs.Ytgcnhppafclnmaa
open Go.RowKit

def knm (r : Nat) : ByteArray := if r = 0 then ⟨#[97]⟩ else if r = 1 then ⟨#[98, 98]⟩ else ⟨#[99, 99, 99]⟩
theorem knm_size (r : Nat) : (knm r).size ≤ 3 := by unfold knm; split <;> (try split) <;> decide
def kfl (gs : List Int) (i : Nat) : Fd := ⟨knm (la gs 90 i % 3), ⟨(growl (la gs 90 i / 3) (la gs 90 i % 5)).toArray⟩⟩
theorem find_last (t : Tb) (f : Fd) (ho : t.Ok) (h : f.size ≤ t.most) : (t.ins f).find f = ((t.ins f).F.length - 1, true, true) := by
  have hl := t.ins_l f ho h
  have hlen := (t.ins f).len_add (t.ins_ok f ho)
  obtain ⟨m, hm⟩ : ∃ m, (t.l.drop (tcut (t.most - f.size) t.l)).length = m := ⟨_, rfl⟩
  have hll : (t.ins f).l.length = m + 1 := by rw [hl, List.length_append, hm]; rfl
  have hg : (t.ins f).l.getD m ⟨.empty, .empty⟩ = f := by
    rw [hl, List.getD_eq_getElem?_getD, List.getElem?_append_right (by omega), hm, Nat.sub_self]; rfl
  unfold Tb.find
  rw [hll, bk, List.find?_cons, hg, decide_eq_true rfl]
  simp only
  rw [show (t.ins f).gone + m = (t.ins f).F.length - 1 by omega]
theorem ins_ne (t : Tb) (f : Fd) (ho : t.Ok) (h : f.size ≤ t.most) : 0 < (t.ins f).l.length := by
  rw [t.ins_l f ho h]; simp
theorem tsum_take (l : List Fd) (k : Nat) (f : Fd) (h : l[k]? = some f) : tsum (l.take (k + 1)) = tsum (l.take k) + f.size := by
  obtain ⟨hk, e⟩ := List.getElem?_eq_some_iff.1 h
  rw [List.take_succ_eq_append_getElem hk, e, tsum_snoc]
theorem tsum_take_le (l : List Fd) (k : Nat) : tsum (l.take k) ≤ tsum l := by
  have := congrArg tsum (List.take_append_drop k l)
  rw [tsum_append] at this; omega
theorem tall_len_le (most : Nat) (fl : Nat → Fd) (k : Nat) : (tall most fl k).F.length ≤ k := by
  induction k with
  | zero => exact Nat.le_refl _
  | succ k ih =>
    rw [tall]
    rcases Nat.lt_or_ge (tall most fl k).most (fl k).size with h | h
    · rw [Tb.ins_no _ _ h]; omega
    · rw [Tb.ins_yes _ _ h]
      show ((tall most fl k).F ++ [fl k]).length ≤ k + 1
      rw [List.length_append, List.length_singleton]; omega

/-- What the rounds of TableKeeps know. -/
structure KeSt (w wr : World) (P : Nat → Prop) (p : Nat) (T : Tb) (An : Option Addr) (cn : Nat) : Prop where
  at_ : At IsTbS P wr p T
  pw : ∀ k, k < w.heap.size → P k
  all : wr.ownsRow w.heap.size 28 2 (.slice An T.F.length cn) T.F.length (fdv T.F)
  pa : ∀ a, An = some a → P a.block
  bl : Below w.heap.size w wr
theorem KeSt.below {w wr wx : World} {P : Nat → Prop} {p : Nat} {T : Tb} {An : Option Addr} {cn : Nat} (h : KeSt w wr P p T An cn) (b : Below wr.heap.size wr wx) : KeSt w wx P p T An cn :=
  ⟨h.at_.below tbOk b, h.pw, own_fr h.all (Fr.of_below b NoS) (fun _ _ x => x), h.pa, h.bl.trans (b.mono h.bl.size)⟩
end Go.Proofs.Ytgcnhppafclnmaa
