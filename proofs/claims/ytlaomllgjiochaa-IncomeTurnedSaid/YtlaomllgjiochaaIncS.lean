/- IncomeGaps: the walk. -/
import Derived.Test.YtlaomllgjiochaaIncQ
import Derived.Test.YtlaomllgjiochaaIncK
import Derived.Test.YtlaomllgjiochaaLow
import Derived.Test.YtlaomllgjiochaaCut
import Derived.Test.YtlaomllgjiochaaGrow
import Derived.Test.YtlaomllgjiochaaSame
namespace Go.Proofs.Ytlaomllgjiochaa
open Go.RowKit

theorem read_to {B N p : Nat} {w0 w : World} {s : Inc} (x : Int) (n : Nat) (l : List UInt8) (s' : Inc) (h : IncAt B N w0 w p s) (hp : p < N) (hn : ireadn s x = n) (hb : ibytes s n = l) (hs : iread s x = s') :
    Calls Try.prog 12 #[.pointer (some ⟨p, 0, none⟩), .int .i64 x] w fun e w' =>
      ∃ A c', e = .returned (.slice A n c') ∧ w'.ownsRow w.heap.size 5 1 (.slice A n c') n (bv l) ∧ IncAt B N w0 w' p s' ∧ Fr (· = p) w w' := by
  subst hn hb hs
  exact read_at x h hp
theorem same_eq (l : List UInt8) (n : Nat) (A1 A2 : Option Addr) (c1 c2 : Nat) (w : World) (hl : l.length = n) (h1 : Rd w A1 (bv l)) (h2 : Rd w A2 (bv l)) (hn : n ≤ 140737488355328) :
    Calls Try.prog 13 #[.slice A1 n c1, .slice A2 n c2] w fun e w' => e = .returned (.bool true) ∧ Still w w' := by
  subst hl
  have := still_of (same_any l l A1 A2 c1 c2 w h1 h2 hn hn)
  rwa [show decide (l = l) = true from by simp] at this
theorem put_to {B N p : Nat} {w0 w : World} {s : Inc} (s' : Inc) (v : Int) (n cc : Nat) (off : Int) (A : Option Addr) (l : List UInt8) (e : Bool) (h : IncAt B N w0 w p s) (hr : Rd w A (bv l)) (hA : 0 < l.length → ∀ a, A = some a → a.block < p ∨ N ≤ a.block)
    (hl : l.length = n) (hn : n ≤ 140737488355328) (ho : off ≤ 9223372036854775807) (hs : iputs s off l e = s') (hv : iputr s off l e = v) :
    Calls Try.prog 10 #[.pointer (some ⟨p, 0, none⟩), .int .i64 off, .slice A n cc, .bool e] w fun r w' => r = .returned (.int .i64 v) ∧ IncAt B w'.heap.size w0 w' p s' ∧ Fr (InB p N) w w' := by
  subst hl
  exact put_at s' v cc off A l e h hr hA hn ho hs hv

theorem put_bound_any (s : Inc) (off : Nat) (l : List UInt8) (e : Bool) (h : s.most < (off : Int) + l.length) : iputr s off l e = 11 ∧ iputs s off l e = s := by
  have hn : iputr s off l e = 11 := by
    unfold iputr
    rw [if_neg (by omega), if_pos (by omega)]
  exact ⟨hn, by rw [iputs, if_neg (by rw [hn]; decide)]⟩
theorem put_end_any (s : Inc) (off : Nat) (l : List UInt8) (hb : (off : Int) + l.length ≤ s.most) (h0 : 0 ≤ s.en) (h : (off : Int) + l.length ≠ s.en) : iputr s off l true = 12 ∧ iputs s off l true = s := by
  have hn : iputr s off l true = 12 := by
    unfold iputr
    rw [if_neg (by omega), if_neg (by omega), if_pos]
    have h1 : eclash s ((off : Int) + l.length) true = true := by
      unfold eclash
      exact (eclash_iff _ _ _ _).2 (.inl ⟨h0, .inr ⟨rfl, h⟩⟩)
    rw [iclash, Int.toNat_natCast, h1, Bool.true_or]
  exact ⟨hn, by rw [iputs, if_neg (by rw [hn]; decide)]⟩
theorem not_whole {s : Inc} (h : (s.rd : Int) + irdb s ≠ s.en) : iwhole s = false := by
  rw [iwhole, decide_eq_false h, Bool.and_false]

/-- The five states of the law, and what each call answers. -/
structure GapPlan (D : List UInt8) (m x y : Nat) (s1 s2 s3 s4 s5 : Inc) : Prop where
  r1 : iputr (inew m) 0 (D.take x) false = 0
  e1 : iputs (inew m) 0 (D.take x) false = s1
  r2 : iputr s1 y (D.drop y) true = 0
  e2 : iputs s1 y (D.drop y) true = s2
  gap : x < y → irdb s2 = x ∧ iwhole s2 = false
  hi : s2.hi = m
  ra : iputr s2 m [1] false = 11
  ea : iputs s2 m [1] false = s2
  rb : iputr s2 0 (D.take (m - 1)) true = 12
  eb : iputs s2 0 (D.take (m - 1)) true = s2
  n3 : ireadn s2 x = x
  b3 : ibytes s2 x = D.take x
  e3 : iread s2 x = s3
  r4 : iputr s3 x ((D.drop x).take (y - x)) false = 0
  e4 : iputs s3 x ((D.drop x).take (y - x)) false = s4
  whole : iwhole s4 = true
  n5 : ireadn s4 m = m - x
  b5 : ibytes s4 (m - x) = D.drop x
  e5 : iread s4 m = s5
  ended : iended s5 = true

theorem gap_b (D : List UInt8) (s : Inc) (m : Nat) (l1 : (D.take (m - 1)).length = m - 1) (hm : 1 ≤ m) (h1 : s.most = m) (h2 : s.en = m) : iputr s 0 (D.take (m - 1)) true = 12 ∧ iputs s 0 (D.take (m - 1)) true = s :=
  put_end_any s 0 (D.take (m - 1)) (by rw [l1, h1]; omega) (by rw [h2]; omega) (by rw [l1, h2]; omega)
theorem gap_a (s : Inc) (m : Nat) (h1 : s.most = m) : iputr s m [1] false = 11 ∧ iputs s m [1] false = s :=
  put_bound_any s m [1] false (by rw [h1]; simp; omega)
attribute [local irreducible] iputr iputs ireadn irdb ibytes iwhole iended
set_option maxHeartbeats 1000000 in
theorem gap_plan (D : List UInt8) (m x y : Nat) (hD : D.length = m) (hm : m ≤ 100) (hxy : x ≤ y) (hy : y < m) : ∃ s1 s2 s3 s4 s5, GapPlan D m x y s1 s2 s3 s4 s5 := by
  have p0 : Part D (inew m) := part_new D m (by omega) (by omega)
  have h0 : ∀ i, ¬ Has (inew m) i := by rintro i ⟨v, hv⟩; simp [inew] at hv
  have lx : (D.take x).length = x := by simp; omega
  have ly : (D.drop y).length = m - y := by simp; omega
  have l1 : (D.take (m - 1)).length = m - 1 := by simp; omega
  have lxy : ((D.drop x).take (y - x)).length = y - x := by simp; omega
  obtain ⟨r1, p1, q1, d1, _, n1, _⟩ := part_put (l := D.take x) (off := 0) (e := false) p0 (fun k hk => by rw [Nat.zero_add, List.getElem?_take_of_lt (by omega)]) (by omega) (fun h => by cases h)
  obtain ⟨s1, e1⟩ : ∃ s1, iputs (inew m) ((0 : Nat) : Int) (D.take x) false = s1 := ⟨_, rfl⟩
  rw [e1] at p1 q1 d1 n1
  obtain ⟨r2, p2, q2, d2, m2, n2, hh2⟩ := part_put (l := D.drop y) (off := y) (e := true) p1 (fun k hk => by rw [List.getElem?_drop]) (by omega) (fun _ => by omega)
  obtain ⟨s2, e2⟩ : ∃ s2, iputs s1 y (D.drop y) true = s2 := ⟨_, rfl⟩
  rw [e2] at p2 q2 d2 n2 m2 hh2
  have has2 : ∀ i, Has s2 i ↔ (i < x ∨ (y ≤ i ∧ i < m)) := by
    intro i
    rw [q2, q1]
    constructor
    · rintro ((h | h) | h)
      · exact absurd h (h0 i)
      · exact .inl (by omega)
      · exact .inr (by omega)
    · rintro (h | h)
      · exact .inl (.inr (by omega))
      · exact .inr (by omega)
  have rd2 : s2.rd = 0 := d2.trans d1
  have en2 : s2.en = m := by rw [n2]; simp [hD]
  have most2 : s2.most = m := by
    have := e1
    rw [m2, ← e1, iputs, if_pos r1]; rfl
  have hn3 : ireadn s2 x = x := by
    have : irdb s2 = (if x < y then x else m) := by
      split
      · exact part_irdb (fun i _ hi => (has2 i).2 (.inl (by omega))) (fun h => by rw [has2] at h; omega)
      · exact part_irdb (fun i _ hi => (has2 i).2 (by omega)) (fun h => by rw [has2] at h; omega)
    unfold ireadn; rw [this]; split <;> omega
  obtain ⟨s3, e3⟩ : ∃ s3, iread s2 x = s3 := ⟨_, rfl⟩
  have p3 : Part D s3 := by rw [← e3]; exact part_read p2 x
  have has3 : ∀ i, Has s3 i ↔ Has s2 i := fun i => by rw [← e3]; exact Iff.rfl
  have rd3 : s3.rd = x := by rw [← e3]; simp only [iread]; rw [hn3, rd2, Nat.zero_add]
  have en3 : s3.en = m := by rw [← e3]; exact en2
  obtain ⟨r4, p4, q4, d4, _, n4, _⟩ := part_put (l := (D.drop x).take (y - x)) (off := x) (e := false) p3 (fun k hk => by rw [List.getElem?_take_of_lt (by omega), List.getElem?_drop]) (by omega) (fun h => by cases h)
  obtain ⟨s4, e4⟩ : ∃ s4, iputs s3 x ((D.drop x).take (y - x)) false = s4 := ⟨_, rfl⟩
  rw [e4] at p4 q4 d4 n4
  have all4 : ∀ i, i < D.length → Has s4 i := fun i hi => by
    rw [q4, has3, has2]; omega
  have rd4 : s4.rd = x := d4.trans rd3
  obtain ⟨f1, f2, f3, f4⟩ := part_all p4 (by omega) all4 (by rw [n4, hD]; simpa using en3)
  have f5 := f3 m (by omega)
  rw [rd4, show min (m : Int).toNat (D.length - x) = m - x from by omega] at f5
  have f6 := f4 (m - x) (by omega)
  rw [rd4, List.take_of_length_le (by simp; omega)] at f6
  refine ⟨s1, s2, s3, s4, iread s4 m, ⟨r1, e1, r2, e2, fun hlt => ?_, ?_, ?_, ?_, ?_, ?_, hn3, ?_, e3, r4, e4, f2, f5, f6, rfl, ?_⟩⟩
  · have : irdb s2 = x := part_irdb (fun i _ hi => (has2 i).2 (.inl (by omega))) (fun h => by rw [has2] at h; omega)
    exact ⟨this, not_whole (by rw [this, en2, rd2]; omega)⟩
  · rw [hh2]; simp [hD]
  · exact (gap_a s2 m most2).1
  · exact (gap_a s2 m most2).2
  · exact (gap_b D s2 m l1 (by omega) most2 en2).1
  · exact (gap_b D s2 m l1 (by omega) most2 en2).2
  · have := part_bytes p2 (n := x) (fun i _ hi => (has2 i).2 (.inl (by rw [rd2] at hi; omega))); rw [rd2, List.drop_zero] at this; exact this
  · exact part_ended (part_read p4 m) (by simp only [iread]; rw [f5, rd4]; omega) all4 (by show s4.en = _; rw [n4, hD]; simpa using en3)
end Go.Proofs.Ytlaomllgjiochaa
