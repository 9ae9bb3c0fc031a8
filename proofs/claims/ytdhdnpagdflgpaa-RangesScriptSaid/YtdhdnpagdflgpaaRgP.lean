/- Ranges, falling, that do not touch: which numbers they hold tells them; what 'add' and 'below' make of them. Plain words, no program. -/
import Derived.Test.YtdhdnpagdflgpaaLib
namespace Go.Proofs.Ytdhdnpagdflgpaa

structure Rg where
  lo : Nat
  hi : Nat
deriving DecidableEq
def Rg.has (r : Rg) (n : Nat) : Bool := decide (r.lo ≤ n) && decide (n ≤ r.hi)
theorem Rg.has_iff (r : Rg) (n : Nat) : r.has n = true ↔ r.lo ≤ n ∧ n ≤ r.hi := by simp [Rg.has]
def rmem (l : List Rg) (x : Nat) : Bool := l.any fun r => r.has x
theorem rmem_iff (l : List Rg) (x : Nat) : rmem l x = true ↔ ∃ r ∈ l, r.lo ≤ x ∧ x ≤ r.hi := by
  unfold rmem; rw [List.any_eq_true]
  constructor
  · rintro ⟨r, hr, h⟩; exact ⟨r, hr, (r.has_iff x).1 h⟩
  · rintro ⟨r, hr, h⟩; exact ⟨r, hr, (r.has_iff x).2 h⟩
theorem rmem_append (l m : List Rg) (x : Nat) : rmem (l ++ m) x = (rmem l x || rmem m x) := by simp [rmem]
structure Rok (l : List Rg) : Prop where
  le : ∀ r ∈ l, r.lo ≤ r.hi
  fall : l.Pairwise fun a b => b.hi + 1 < a.lo
theorem Rok.nil : Rok [] := ⟨by simp, List.Pairwise.nil⟩
theorem Rok.cons {a : Rg} {l : List Rg} (h : Rok (a :: l)) : a.lo ≤ a.hi ∧ (∀ b ∈ l, b.hi + 1 < a.lo) ∧ Rok l :=
  ⟨h.le a (by simp), (List.pairwise_cons.1 h.fall).1, ⟨fun r hr => h.le r (by simp [hr]), (List.pairwise_cons.1 h.fall).2⟩⟩
theorem Rok.mk_cons {a : Rg} {l : List Rg} (h : Rok l) (h1 : a.lo ≤ a.hi) (h2 : ∀ b ∈ l, b.hi + 1 < a.lo) : Rok (a :: l) :=
  ⟨fun r hr => by
    rcases List.mem_cons.1 hr with rfl | hr
    · exact h1
    · exact h.le r hr, List.pairwise_cons.2 ⟨h2, h.fall⟩⟩
theorem rok_ext : ∀ l m : List Rg, Rok l → Rok m → (∀ x, rmem l x = rmem m x) → l = m
  | [], [], _, _, _ => rfl
  | [], b :: m, _, hm, h => by
    have := (rmem_iff (b :: m) b.hi).2 ⟨b, by simp, hm.cons.1, Nat.le_refl _⟩
    rw [← h] at this; simp [rmem] at this
  | a :: l, [], hl, _, h => by
    have := (rmem_iff (a :: l) a.hi).2 ⟨a, by simp, hl.cons.1, Nat.le_refl _⟩
    rw [h] at this; simp [rmem] at this
  | a :: l, b :: m, hl, hm, h => by
    obtain ⟨ha, hal, hl'⟩ := hl.cons
    obtain ⟨hb, hbm, hm'⟩ := hm.cons
    have top : ∀ (a : Rg) (l : List Rg) (x : Nat), a.lo ≤ a.hi → (∀ b ∈ l, b.hi + 1 < a.lo) → rmem (a :: l) x = true → x ≤ a.hi := by
      intro a l x ha hal hx
      obtain ⟨r, hr, h1, h2⟩ := (rmem_iff _ _).1 hx
      rcases List.mem_cons.1 hr with rfl | hr
      · exact h2
      · have := hal r hr; omega
    have h1 : a.hi ≤ b.hi := top b m _ hb hbm (by rw [← h]; exact (rmem_iff _ _).2 ⟨a, by simp, ha, Nat.le_refl _⟩)
    have h2 : b.hi ≤ a.hi := top a l _ ha hal (by rw [h]; exact (rmem_iff _ _).2 ⟨b, by simp, hb, Nat.le_refl _⟩)
    have gap : ∀ (a b : Rg) (l m : List Rg), a.lo ≤ a.hi → b.lo ≤ b.hi → (∀ r ∈ m, r.hi + 1 < b.lo) → a.hi = b.hi → (∀ x, rmem (a :: l) x = rmem (b :: m) x) → b.lo ≤ a.lo := by
      intro a b l m ha hb hbm e h
      rcases Nat.lt_or_ge a.lo b.lo with hlt | hge
      · exfalso
        have h3 := (rmem_iff (a :: l) (b.lo - 1)).2 ⟨a, by simp, by omega, by omega⟩
        rw [h] at h3
        obtain ⟨r, hr, h4, h5⟩ := (rmem_iff _ _).1 h3
        rcases List.mem_cons.1 hr with rfl | hr
        · omega
        · have := hbm r hr; omega
      · exact hge
    have h3 := gap a b l m ha hb hbm (by omega) h
    have h4 := gap b a m l hb ha hal (by omega) (fun x => (h x).symm)
    have e : a = b := by cases a; cases b; simp at *; omega
    subst e
    congr 1
    refine rok_ext l m hl' hm' (fun x => ?_)
    have hx := h x
    have cons : ∀ l : List Rg, (∀ r ∈ l, r.hi + 1 < a.lo) → rmem l x = (rmem (a :: l) x && decide (x < a.lo)) := by
      intro l hl
      rw [Bool.eq_iff_iff, Bool.and_eq_true, rmem_iff, rmem_iff, decide_eq_true_eq]
      constructor
      · rintro ⟨r, hr, h5, h6⟩
        have := hl r hr
        exact ⟨⟨r, by simp [hr], h5, h6⟩, by omega⟩
      · rintro ⟨⟨r, hr, h5, h6⟩, h7⟩
        rcases List.mem_cons.1 hr with rfl | hr
        · omega
        · exact ⟨r, hr, h5, h6⟩
    rw [cons l hal, cons m hbm, hx]
theorem rok_append {l m : List Rg} : Rok (l ++ m) ↔ Rok l ∧ Rok m ∧ ∀ a ∈ l, ∀ b ∈ m, b.hi + 1 < a.lo := by
  constructor
  · intro h
    have hp := List.pairwise_append.1 h.fall
    exact ⟨⟨fun r hr => h.le r (by simp [hr]), hp.1⟩, ⟨fun r hr => h.le r (by simp [hr]), hp.2.1⟩, hp.2.2⟩
  · rintro ⟨h1, h2, h3⟩
    exact ⟨fun r hr => by
      rcases List.mem_append.1 hr with hr | hr
      · exact h1.le r hr
      · exact h2.le r hr, List.pairwise_append.2 ⟨h1.fall, h2.fall, h3⟩⟩

/-- 'join': two that touch become one. -/
def rjoin (l : List Rg) (k : Nat) : List Rg :=
  match l[k]?, l[k + 1]? with
  | some a, some b => if a.lo = b.hi + 1 then l.take k ++ ⟨b.lo, a.hi⟩ :: l.drop (k + 2) else l
  | _, _ => l
theorem rjoin_mid (P Q : List Rg) (c : Rg) : rjoin (P ++ c :: Q) P.length = match Q with | [] => P ++ [c] | q :: Q' => if c.lo = q.hi + 1 then P ++ ⟨q.lo, c.hi⟩ :: Q' else P ++ c :: q :: Q' := by
  unfold rjoin
  have e1 : (P ++ c :: Q)[P.length]? = some c := by simp
  have e2 : (P ++ c :: Q)[P.length + 1]? = Q[0]? := by rw [List.getElem?_append_right (by omega), show P.length + 1 - P.length = 0 + 1 by omega, List.getElem?_cons_succ]
  rw [e1, e2]
  cases Q with
  | nil => simp
  | cons q Q' =>
    simp only [List.getElem?_cons_zero]
    split
    · rw [List.take_left, List.drop_append, List.drop_eq_nil_of_le (by omega), show P.length + 2 - P.length = 2 by omega]; rfl
    · rfl
/-- Where a number's place is. -/
def rat (l : List Rg) (n : Nat) : Nat := (l.takeWhile fun r => !decide (r.hi < n)).length
def rins (l : List Rg) (n : Nat) : List Rg := l.take (rat l n) ++ ⟨n, n⟩ :: l.drop (rat l n)
/-- 'Add', ahead of what is forgotten. -/
def radd (l : List Rg) (n : Nat) : List Rg := let m := rjoin (rins l n) (rat l n); if rat l n = 0 then m else rjoin m (rat l n - 1)
theorem rat_parts (l : List Rg) (n : Nat) : ∃ P Q, l = P ++ Q ∧ P.length = rat l n ∧ (∀ r ∈ P, n ≤ r.hi) ∧ (∀ q, Q.head? = some q → q.hi < n) := by
  refine ⟨l.takeWhile fun r => !decide (r.hi < n), l.dropWhile fun r => !decide (r.hi < n), (List.takeWhile_append_dropWhile).symm, rfl, fun r hr => ?_, fun q hq => ?_⟩
  · have := List.all_eq_true.1 (List.all_takeWhile (l := l) (p := fun r => !decide (r.hi < n))) r hr; simpa using this
  · have := List.head?_dropWhile_not (fun r : Rg => !decide (r.hi < n)) l
    rw [hq] at this
    simpa using this
theorem radd_ok {l : List Rg} {n : Nat} (h : Rok l) (hn : rmem l n = false) : Rok (radd l n) ∧ (∀ x, rmem (radd l n) x = (rmem l x || decide (x = n))) := by
  obtain ⟨P, Q, rfl, hP, hP2, hQ⟩ := rat_parts l n
  obtain ⟨okP, okQ, hPQ⟩ := rok_append.1 h
  have hPn : ∀ r ∈ P, n < r.lo := by
    intro r hr
    have := hP2 r hr
    rcases Nat.lt_or_ge n r.lo with h1 | h1
    · exact h1
    · exfalso
      have := (rmem_iff (P ++ Q) n).2 ⟨r, by simp [hr], h1, this⟩
      rw [hn] at this; cases this
  have hQn : ∀ r ∈ Q, r.hi < n := by
    intro r hr
    cases Q with
    | nil => cases hr
    | cons q Q' =>
      have h1 := hQ q rfl
      rcases List.mem_cons.1 hr with rfl | hr
      · exact h1
      · have := (okQ.cons).2.1 r hr
        have := (okQ.cons).1
        omega
  have e1 : rins (P ++ Q) n = P ++ ⟨n, n⟩ :: Q := by
    unfold rins; rw [← hP, List.take_left, List.drop_left]
  have mid : ∃ c Q', rjoin (rins (P ++ Q) n) (rat (P ++ Q) n) = P ++ c :: Q' ∧ c.hi = n ∧ c.lo ≤ n ∧ (∀ r ∈ Q', r.hi + 1 < c.lo) ∧ Rok Q' ∧ (∀ x, (c.has x || rmem Q' x) = (rmem Q x || decide (x = n))) ∧ (∀ r ∈ P, c.lo < r.lo) := by
    rw [e1, ← hP, rjoin_mid]
    cases Q with
    | nil => exact ⟨⟨n, n⟩, [], rfl, rfl, Nat.le_refl _, by simp, Rok.nil, fun x => by simp [rmem, Rg.has]; rw [Bool.eq_iff_iff]; simp; omega, hPn⟩
    | cons q Q' =>
      obtain ⟨q1, q2, q3⟩ := okQ.cons
      have hqn := hQn q (by simp)
      simp only
      by_cases hj : n = q.hi + 1
      · rw [if_pos hj]
        refine ⟨⟨q.lo, n⟩, Q', rfl, rfl, by simp only; omega, q2, q3, fun x => ?_, fun r hr => by have := hPn r hr; simp only; omega⟩
        rw [Bool.eq_iff_iff]
        simp only [rmem, Rg.has, List.any_cons, Bool.or_eq_true, Bool.and_eq_true, decide_eq_true_eq]
        constructor
        · rintro (⟨h1, h2⟩ | h1)
          · by_cases hx : x = n
            · exact .inr hx
            · exact .inl (.inl ⟨h1, by omega⟩)
          · exact .inl (.inr h1)
        · rintro ((⟨h1, h2⟩ | h1) | h1)
          · exact .inl ⟨h1, by omega⟩
          · exact .inr h1
          · exact .inl ⟨by omega, by omega⟩
      · rw [if_neg hj]
        refine ⟨⟨n, n⟩, q :: Q', rfl, rfl, Nat.le_refl _, fun r hr => ?_, okQ, fun x => ?_, hPn⟩
        · rcases List.mem_cons.1 hr with rfl | hr
          · simp only; omega
          · have := q2 r hr; simp only; omega
        · rw [Bool.or_comm]
          congr 1
          rw [Bool.eq_iff_iff]; simp [Rg.has]; omega
  obtain ⟨c, Q', e2, hc1, hc2, hc3, okQ', hc4, hc5⟩ := mid
  have okM : Rok (P ++ c :: Q') ∨ ∃ P' p, P = P' ++ [p] ∧ p.lo = c.hi + 1 := by
    rcases List.eq_nil_or_concat P with rfl | ⟨P', p, rfl⟩
    · left
      exact Rok.mk_cons okQ' (by omega) hc3
    · by_cases hp : p.lo = c.hi + 1
      · exact .inr ⟨P', p, by simp, hp⟩
      · left
        rw [rok_append]
        refine ⟨okP, Rok.mk_cons okQ' (by omega) hc3, fun a ha b hb => ?_⟩
        have hpl := hPn p (by simp)
        have hap : p.lo ≤ a.lo := by
          rcases List.mem_append.1 (by simpa using ha : a ∈ P' ++ [p]) with ha | ha
          · have := (rok_append.1 (by simpa using okP : Rok (P' ++ [p]))).2.2 a ha p (by simp)
            have := okP.le p (by simp)
            omega
          · simp at ha; subst ha; exact Nat.le_refl _
        rcases List.mem_cons.1 hb with rfl | hb
        · omega
        · have := hc3 b hb; omega
  have memM : ∀ x, rmem (P ++ c :: Q') x = (rmem (P ++ Q) x || decide (x = n)) := by
    intro x
    rw [rmem_append, rmem_append, show rmem (c :: Q') x = (c.has x || rmem Q' x) from by simp [rmem], hc4, Bool.or_assoc]
  unfold radd
  simp only [e2]
  rw [← hP]
  rcases List.eq_nil_or_concat P with rfl | ⟨P', p, rfl⟩
  · simp only [List.length_nil, if_true]
    rcases okM with h1 | ⟨_, _, h1, _⟩
    · exact ⟨h1, memM⟩
    · simp at h1
  · rw [if_neg (by simp)]
    have e3 : rjoin (P'.concat p ++ c :: Q') ((P'.concat p).length - 1) = if p.lo = c.hi + 1 then P' ++ ⟨c.lo, p.hi⟩ :: Q' else P' ++ p :: c :: Q' := by
      have := rjoin_mid P' (c :: Q') p
      simpa using this
    rw [e3]
    have okP2 : Rok (P' ++ [p]) := by simpa using okP
    by_cases hp : p.lo = c.hi + 1
    · rw [if_pos hp]
      obtain ⟨k1, k2, k3⟩ := rok_append.1 okP2
      have hpp := k2.le p (by simp)
      constructor
      · rw [rok_append]
        refine ⟨k1, Rok.mk_cons okQ' (by simp only; omega) hc3, fun a ha b hb => ?_⟩
        have h1 := k3 a ha p (by simp)
        rcases List.mem_cons.1 hb with rfl | hb
        · exact h1
        · have := hc3 b hb; omega
      · intro x
        rw [← memM x]
        rw [show P'.concat p ++ c :: Q' = P' ++ p :: c :: Q' from by simp, rmem_append, rmem_append]
        congr 1
        simp only [rmem, List.any_cons, ← Bool.or_assoc]
        congr 1
        rw [Bool.eq_iff_iff]
        simp only [Rg.has, Bool.or_eq_true, Bool.and_eq_true, decide_eq_true_eq]
        omega
    · rw [if_neg hp]
      rcases okM with h1 | ⟨P2, p2, h1, h2⟩
      · exact ⟨by simpa using h1, by simpa using memM⟩
      · have : P' ++ [p] = P2 ++ [p2] := by simpa using h1
        have := (List.append_inj' this rfl).2
        simp at this; subst this
        exact absurd h2 hp

/-- 'Below', of the ranges. -/
def rlow : List Rg → Nat → List Rg
  | [], _ => []
  | [r], n => [⟨max r.lo n, r.hi⟩]
  | r :: s :: l, n => r :: rlow (s :: l) n
def rbelow (l : List Rg) (n : Nat) : List Rg := rlow (l.filter fun r => !decide (r.hi < n)) n
theorem rlow_mem : ∀ (l : List Rg) (n x : Nat), Rok l → (∀ r ∈ l, n ≤ r.hi) → Rok (rlow l n) ∧ (∀ r ∈ rlow l n, ∃ s ∈ l, r.hi = s.hi) ∧ rmem (rlow l n) x = (rmem l x && decide (n ≤ x))
  | [], n, x, _, _ => ⟨Rok.nil, by simp [rlow], by simp [rmem, rlow]⟩
  | [r], n, x, h, hn => by
    have h1 := h.le r (by simp)
    have h2 := hn r (by simp)
    refine ⟨Rok.mk_cons Rok.nil (by simp only; omega) (by simp), by simp [rlow], ?_⟩
    rw [Bool.eq_iff_iff]
    simp [rmem, rlow, Rg.has]
    omega
  | r :: s :: l, n, x, h, hn => by
    obtain ⟨h1, h2, h3⟩ := h.cons
    obtain ⟨i1, i2, i3⟩ := rlow_mem (s :: l) n x h3 (fun q hq => hn q (by simp [hq]))
    refine ⟨Rok.mk_cons i1 h1 (fun b hb => ?_), fun q hq => ?_, ?_⟩
    · obtain ⟨t, ht, e⟩ := i2 b hb
      have := h2 t ht; omega
    · rcases List.mem_cons.1 hq with rfl | hq
      · exact ⟨_, by simp, rfl⟩
      · obtain ⟨t, ht, e⟩ := i2 q hq
        exact ⟨t, by simp [ht], e⟩
    · have hs := h2 s (by simp)
      have hsn := hn s (by simp)
      have e1 : rmem (r :: rlow (s :: l) n) x = (r.has x || rmem (rlow (s :: l) n) x) := by simp [rmem]
      have e2 : rmem (r :: s :: l) x = (r.has x || rmem (s :: l) x) := by simp [rmem]
      show rmem (r :: rlow (s :: l) n) x = _
      rw [e1, e2, i3]
      cases hr : r.has x
      · simp
      · have := (r.has_iff x).1 hr
        rw [decide_eq_true (by omega)]; simp
theorem rbelow_ok {l : List Rg} (h : Rok l) (n : Nat) : Rok (rbelow l n) ∧ ∀ x, rmem (rbelow l n) x = (rmem l x && decide (n ≤ x)) := by
  have hf : Rok (l.filter fun r => !decide (r.hi < n)) := ⟨fun r hr => h.le r ((List.mem_filter.1 hr).1), h.fall.filter _⟩
  have hn : ∀ r ∈ l.filter fun r => !decide (r.hi < n), n ≤ r.hi := fun r hr => by have := (List.mem_filter.1 hr).2; simpa using this
  refine ⟨(rlow_mem _ n 0 hf hn).1, fun x => ?_⟩
  unfold rbelow
  rw [(rlow_mem _ n x hf hn).2.2, Bool.eq_iff_iff, Bool.and_eq_true, Bool.and_eq_true, rmem_iff, rmem_iff]
  constructor
  · rintro ⟨⟨r, hr, h1⟩, h2⟩
    exact ⟨⟨r, (List.mem_filter.1 hr).1, h1⟩, h2⟩
  · rintro ⟨⟨r, hr, h1⟩, h2⟩
    simp at h2
    exact ⟨⟨r, List.mem_filter.2 ⟨hr, by simp; omega⟩, h1⟩, by simpa using h2⟩
theorem rjoin_len (l : List Rg) (k : Nat) : (rjoin l k).length ≤ l.length := by
  unfold rjoin
  split
  · rename_i a b h1 h2
    have := (List.getElem?_eq_some_iff.1 h2).1
    split
    · simp; omega
    · exact Nat.le_refl _
  · exact Nat.le_refl _
theorem rins_len (l : List Rg) (n : Nat) : (rins l n).length = l.length + 1 := by
  unfold rins
  have : rat l n ≤ l.length := by
    unfold rat
    exact (List.takeWhile_sublist _).length_le
  simp; omega
theorem radd_len (l : List Rg) (n : Nat) : (radd l n).length ≤ l.length + 1 := by
  unfold radd
  simp only
  split
  · have := rjoin_len (rins l n) (rat l n); rw [rins_len] at this; exact this
  · have h1 := rjoin_len (rjoin (rins l n) (rat l n)) (rat l n - 1)
    have h2 := rjoin_len (rins l n) (rat l n)
    rw [rins_len] at h2
    omega

/-- A set: its ranges, what is forgotten, how many ranges at most. -/
structure Rs where
  most : Nat
  l : List Rg
  floor : Nat
def Rs.has (s : Rs) (n : Nat) : Bool := decide (n < s.floor) || rmem s.l n
structure Rs.Ok (s : Rs) : Prop where
  ok : Rok s.l
  len : s.l.length ≤ s.most
  low : ∀ r ∈ s.l, s.floor ≤ r.lo
  top : ∀ r ∈ s.l, r.hi ≤ 4611686018427387903
  fl : s.floor ≤ 18446744073709551615
def Rs.trim (s : Rs) : Rs := if s.l.length = s.most + 1 then ⟨s.most, s.l.dropLast, (s.l.getLast?.map (fun r => r.hi + 1)).getD 0⟩ else s
def Rs.add (s : Rs) (n : Nat) : Rs := Rs.trim ⟨s.most, radd s.l n, s.floor⟩
def Rs.below (s : Rs) (n : Nat) : Rs := ⟨s.most, rbelow s.l n, max s.floor n⟩
def rsnew (most : Nat) : Rs := ⟨most, [], 0⟩
theorem rsnew_ok (most : Nat) : (rsnew most).Ok := ⟨Rok.nil, by simp [rsnew], by simp [rsnew], by simp [rsnew], by simp [rsnew]⟩
theorem Rs.mem_low {s : Rs} (h : s.Ok) {x : Nat} (hx : rmem s.l x = true) : s.floor ≤ x := by
  obtain ⟨r, hr, h1, _⟩ := (rmem_iff _ _).1 hx
  have := h.low r hr; omega
theorem rok_last {l : List Rg} (h : Rok l) (hne : l ≠ []) : Rok l.dropLast ∧ (∀ r ∈ l.dropLast, (l.getLast hne).hi + 1 ≤ r.lo) ∧ ∀ x, rmem l.dropLast x = (rmem l x && decide ((l.getLast hne).hi + 1 ≤ x)) := by
  have e := List.dropLast_concat_getLast hne
  have h' := h
  rw [← e, rok_append] at h'
  obtain ⟨h1, h2, h3⟩ := h'
  refine ⟨h1, fun r hr => by have := h3 r hr (l.getLast hne) (by simp); omega, fun x => ?_⟩
  have e2 : rmem l x = (rmem l.dropLast x || rmem [l.getLast hne] x) := by rw [← rmem_append, e]
  rw [e2, Bool.eq_iff_iff]
  simp only [Bool.and_eq_true, Bool.or_eq_true, decide_eq_true_eq]
  constructor
  · intro hx
    refine ⟨.inl hx, ?_⟩
    obtain ⟨r, hr, h4, _⟩ := (rmem_iff _ _).1 hx
    have := h3 r hr (l.getLast hne) (by simp); omega
  · rintro ⟨hx | hx, h4⟩
    · exact hx
    · obtain ⟨r, hr, _, h5⟩ := (rmem_iff _ _).1 hx
      simp at hr; subst hr; omega
/-- What 'Add' makes of a set. -/
theorem Rs.add_ok {s : Rs} {n : Nat} (h : s.Ok) (hn : s.has n = false) (hm : n ≤ 4611686018427387903) (hmost : 1 ≤ s.most) :
    (s.add n).Ok ∧ (∀ x, rmem (s.add n).l x = ((rmem s.l x || decide (x = n)) && decide ((s.add n).floor ≤ x))) ∧ s.floor ≤ (s.add n).floor ∧ (s.add n).most = s.most ∧
      ((radd s.l n).length ≤ s.most → (s.add n).floor = s.floor ∧ (s.add n).l = radd s.l n) ∧ ((radd s.l n).length = s.most + 1 → ∃ r, (radd s.l n).getLast? = some r ∧ (s.add n).floor = r.hi + 1 ∧ (s.add n).l = (radd s.l n).dropLast) := by
  have hn2 : rmem s.l n = false ∧ s.floor ≤ n := by unfold Rs.has at hn; simp at hn; exact ⟨hn.2, hn.1⟩
  obtain ⟨k1, k2⟩ := radd_ok h.ok hn2.1
  have klow : ∀ r ∈ radd s.l n, s.floor ≤ r.lo := by
    intro r hr
    have := (k2 r.lo).symm.trans ((rmem_iff _ _).2 ⟨r, hr, Nat.le_refl _, k1.le r hr⟩)
    rw [Bool.or_eq_true, decide_eq_true_eq] at this
    rcases this with h1 | h1
    · exact Rs.mem_low h h1
    · omega
  have ktop : ∀ r ∈ radd s.l n, r.hi ≤ 4611686018427387903 := by
    intro r hr
    have := (k2 r.hi).symm.trans ((rmem_iff _ _).2 ⟨r, hr, k1.le r hr, Nat.le_refl _⟩)
    rw [Bool.or_eq_true, decide_eq_true_eq] at this
    rcases this with h1 | h1
    · obtain ⟨t, ht, _, h3⟩ := (rmem_iff _ _).1 h1
      have := h.top t ht; omega
    · omega
  have klen := radd_len s.l n
  have hl := h.len
  unfold Rs.add Rs.trim
  simp only
  by_cases hc : (radd s.l n).length = s.most + 1
  · have hne : radd s.l n ≠ [] := by intro e; rw [e] at hc; simp at hc
    obtain ⟨d1, d2, d3⟩ := rok_last k1 hne
    have eg : (radd s.l n).getLast? = some ((radd s.l n).getLast hne) := List.getLast?_eq_some_getLast hne
    have hge : s.floor ≤ ((radd s.l n).getLast hne).hi + 1 := by
      have := klow _ (List.getLast_mem hne)
      have := k1.le _ (List.getLast_mem hne)
      omega
    rw [if_pos hc]
    simp only [eg, Option.map_some, Option.getD_some]
    refine ⟨⟨d1, by simp [hc], d2, fun r hr => ktop r (List.dropLast_subset _ hr), by have := ktop _ (List.getLast_mem hne); simp only; omega⟩, fun x => by rw [d3, k2], hge, trivial, fun h => by omega, fun _ => ⟨_, rfl, rfl, trivial⟩⟩
  · rw [if_neg hc]
    refine ⟨⟨k1, by simp only; omega, klow, ktop, h.fl⟩, fun x => ?_, Nat.le_refl _, rfl, fun _ => ⟨rfl, rfl⟩, fun h => absurd h hc⟩
    simp only
    rw [k2]
    cases hx : (rmem s.l x || decide (x = n))
    · rfl
    · rw [Bool.or_eq_true, decide_eq_true_eq] at hx
      rcases hx with h1 | h1
      · rw [decide_eq_true (Rs.mem_low h h1)]; rfl
      · rw [decide_eq_true (by omega)]; rfl
theorem Rs.below_ok {s : Rs} (n : Nat) (h : s.Ok) (hn : n ≤ 18446744073709551615) : (s.below n).Ok ∧ ∀ x, rmem (s.below n).l x = (rmem s.l x && decide ((s.below n).floor ≤ x)) := by
  obtain ⟨k1, k2⟩ := rbelow_ok h.ok n
  have key : ∀ x, rmem (rbelow s.l n) x = (rmem s.l x && decide (max s.floor n ≤ x)) := fun x => by
    rw [k2]
    cases hx : rmem s.l x
    · rfl
    · have := Rs.mem_low h hx
      simp only [Bool.true_and]
      by_cases h1 : n ≤ x
      · rw [decide_eq_true h1, decide_eq_true (by omega)]
      · rw [decide_eq_false h1, decide_eq_false (by omega)]
  have hlen : (rbelow s.l n).length ≤ s.l.length := by
    unfold rbelow
    have : ∀ (l : List Rg), (rlow l n).length = l.length := by
      intro l
      induction l with
      | nil => rfl
      | cons r l ih => cases l <;> simp_all [rlow]
    rw [this]; exact List.length_filter_le _ _
  refine ⟨⟨k1, Nat.le_trans hlen h.len, fun r hr => ?_, fun r hr => ?_, ?_⟩, key⟩
  · have := (key r.lo).symm.trans ((rmem_iff _ _).2 ⟨r, hr, Nat.le_refl _, k1.le r hr⟩)
    simp at this; simp only [Rs.below]; omega
  · have := (key r.hi).symm.trans ((rmem_iff _ _).2 ⟨r, hr, k1.le r hr, Nat.le_refl _⟩)
    simp at this
    obtain ⟨t, ht, _, h3⟩ := (rmem_iff _ _).1 this.1
    have := h.top t ht; omega
  · have := h.fl; simp only [Rs.below]; omega
end Go.Proofs.Ytdhdnpagdflgpaa
