/- cids: the names that are there, which paths have them: what each call makes of them, in plain Lean; the document's own list (in the order in which they came) beside ours (rising by number). Nothing of the program. -/
import Derived.Test.YtgmanhbfdjlhbaaLib
namespace Go.Proofs.Ytgmanhbfdjlhbaa

structure Nm where
  seq : Nat
  id : List UInt8
  tok : List UInt8
  path : Int
  told : Bool
deriving DecidableEq
structure Cd where
  l : List Nm
  use : Int
deriving DecidableEq
def cnew (first : List UInt8) : Cd := ⟨[⟨0, first, [], 0, false⟩], 0⟩
def Nm.free (x : Nm) : Bool := decide (x.path = -1)
def cfree (l : List Nm) : Nat := l.countP Nm.free
def cins (n : Nm) (l : List Nm) : List Nm := l.takeWhile (fun x => decide (x.seq < n.seq)) ++ n :: l.dropWhile (fun x => decide (x.seq < n.seq))
/-- What Add answers: of a list in whatever order. -/
def caddE (l : List Nm) (q : Nat) (c t : List UInt8) : Int :=
  if c.length ≠ 8 ∨ t.length ≠ 16 then 5
  else if l.any (fun x => decide (x.seq = q ∧ x.id = c ∧ x.tok = t)) then 0
  else if l.any (fun x => decide (x.seq = q ∨ x.id = c)) then 12
  else if cfree l = 8 then 9 else 0
/-- Is there a new one? -/
def caddN (l : List Nm) (q : Nat) (c t : List UInt8) : Bool :=
  decide (c.length = 8 ∧ t.length = 16) && !l.any (fun x => decide (x.seq = q ∨ x.id = c)) && decide (cfree l ≠ 8)
def cadd (s : Cd) (q : Nat) (c t : List UInt8) : Cd := if caddN s.l q c t then ⟨cins ⟨q, c, t, -1, false⟩ s.l, s.use⟩ else s
def radd (s : Cd) (q : Nat) (c t : List UInt8) : Cd := if caddN s.l q c t then ⟨s.l ++ [⟨q, c, t, -1, false⟩], s.use⟩ else s
def cset (l : List Nm) (q : Nat) (p : Int) : List Nm := l.map fun x => if x.seq = q then { x with path := p } else x
/-- The first free one; of a rising list the least. -/
def cpick (l : List Nm) (p : Int) : Option Nm := (l.find? fun x => decide (x.path = p)).or (l.find? Nm.free)
/-- The least free one. -/
def rbest : List Nm → Option Nm → Option Nm
  | [], b => b
  | x :: l, b => rbest l (if x.free && (match b with | none => true | some y => decide (x.seq < y.seq)) then some x else b)
def rpick (l : List Nm) (p : Int) : Option Nm := (l.find? fun x => decide (x.path = p)).or (rbest l none)
def cforBy (pick : List Nm → Int → Option Nm) (s : Cd) (p : Int) : Cd × Option (List UInt8) :=
  if p < 0 then (s, none) else match pick s.l p with | none => (s, none) | some x => (⟨cset s.l x.seq p, p⟩, some x.id)
def Nm.old (use : Int) (x : Nm) : Bool := decide (x.path ≠ -1 ∧ x.path ≠ use) && !x.told
def cret (s : Cd) : Cd × List Nat := (⟨s.l.map fun x => if x.old s.use then { x with told := true } else x, s.use⟩, (s.l.filter (Nm.old s.use)).map Nm.seq)
def nsort : Nat → List Nat → List Nat
  | q, l => l.takeWhile (fun x => decide (x ≤ q)) ++ q :: l.dropWhile (fun x => decide (x ≤ q))
def rret (s : Cd) : Cd × List Nat := (⟨s.l.map fun x => if x.old s.use then { x with told := true } else x, s.use⟩, (s.l.filter (Nm.old s.use)).foldl (fun out x => nsort x.seq out) [])
def ctok (l : List Nm) (t : List UInt8) : Bool := l.any fun x => decide (x.path ≠ -1 ∧ x.tok ≠ [] ∧ x.tok = t)

/-- No two are alike. -/
def NmNe (a b : Nm) : Prop := a.seq ≠ b.seq ∧ a.id ≠ b.id ∧ (a.path = b.path → a.path = -1)
theorem NmNe.symm {a b : Nm} (h : NmNe a b) : NmNe b a := ⟨fun e => h.1 e.symm, fun e => h.2.1 e.symm, fun e => e ▸ h.2.2 e.symm⟩
/-- Ours and the document's. -/
structure SimC (s r : Cd) : Prop where
  use : s.use = r.use
  perm : s.l.Perm r.l
  rise : s.l.Pairwise (fun a b => a.seq < b.seq)
  ne : s.l.Pairwise NmNe
  path : ∀ x ∈ s.l, -1 ≤ x.path
  ids : ∀ x ∈ s.l, x.id.length = 8 ∧ (x.tok = [] ∨ x.tok.length = 16)

theorem any_perm {l m : List Nm} (h : l.Perm m) (q : Nm → Bool) : l.any q = m.any q := by
  rw [Bool.eq_iff_iff, List.any_eq_true, List.any_eq_true]
  exact ⟨fun ⟨x, hx, hq⟩ => ⟨x, h.mem_iff.1 hx, hq⟩, fun ⟨x, hx, hq⟩ => ⟨x, h.mem_iff.2 hx, hq⟩⟩
section
variable {s r : Cd}
theorem SimC.free (h : SimC s r) : cfree s.l = cfree r.l := h.perm.countP_eq _
theorem SimC.err (h : SimC s r) (q : Nat) (c t : List UInt8) : caddE s.l q c t = caddE r.l q c t := by
  unfold caddE; rw [any_perm h.perm, any_perm h.perm, h.free]
theorem SimC.tok (h : SimC s r) (t : List UInt8) : ctok s.l t = ctok r.l t := any_perm h.perm _
theorem cins_perm (n : Nm) (l : List Nm) : (cins n l).Perm (l ++ [n]) := by
  unfold cins
  have h := List.takeWhile_append_dropWhile (p := fun x : Nm => decide (x.seq < n.seq)) (l := l)
  exact List.perm_middle.trans ((List.Perm.cons n (by rw [h]; exact List.Perm.refl _)).trans (List.perm_append_comm (l₁ := [n]) (l₂ := l)))
theorem cins_rise {n : Nm} {l : List Nm} (h : l.Pairwise (fun a b => a.seq < b.seq)) (hn : ∀ x ∈ l, x.seq ≠ n.seq) : (cins n l).Pairwise (fun a b => a.seq < b.seq) := by
  induction l with
  | nil => simp [cins]
  | cons x l ih =>
    rw [List.pairwise_cons] at h
    have ih := ih h.2 (fun y hy => hn y (List.mem_cons_of_mem _ hy))
    have hx := hn x (by simp)
    by_cases hlt : x.seq < n.seq
    · have e : cins n (x :: l) = x :: cins n l := by simp [cins, hlt]
      rw [e, List.pairwise_cons]
      refine ⟨fun y hy => ?_, ih⟩
      rcases List.mem_append.1 ((cins_perm n l).mem_iff.1 hy) with h1 | h1
      · exact h.1 y h1
      · rw [List.mem_singleton] at h1; rw [h1]; exact hlt
    · have e : cins n (x :: l) = n :: x :: l := by simp [cins, hlt]
      rw [e, List.pairwise_cons]
      refine ⟨fun y hy => ?_, List.pairwise_cons.2 h⟩
      rcases List.mem_cons.1 hy with rfl | h1
      · omega
      · have := h.1 y h1; omega
theorem SimC.add (h : SimC s r) (q : Nat) (c t : List UInt8) : SimC (cadd s q c t) (radd r q c t) := by
  have hN : caddN s.l q c t = caddN r.l q c t := by unfold caddN; rw [any_perm h.perm, h.free]
  unfold cadd radd
  rw [← hN]
  cases hb : caddN s.l q c t with
  | false => simpa using h
  | true =>
    rw [if_pos rfl, if_pos rfl]
    unfold caddN at hb
    simp only [Bool.and_eq_true, decide_eq_true_eq, Bool.not_eq_true', List.any_eq_false] at hb
    obtain ⟨⟨⟨h8, h16⟩, hno⟩, _⟩ := hb
    have hno' : ∀ x ∈ s.l, x.seq ≠ q ∧ x.id ≠ c := fun x hx => by
      have := hno x hx
      rw [not_or] at this; exact this
    refine ⟨h.use, (cins_perm _ _).trans (h.perm.append_right _), cins_rise h.rise (fun x hx => (hno' x hx).1), ?_, ?_, ?_⟩
    · refine ((cins_perm _ _).pairwise_iff (fun h => NmNe.symm h)).2 (List.pairwise_append.2 ⟨h.ne, List.pairwise_singleton _ _, fun a ha b hb => ?_⟩)
      rw [List.mem_singleton] at hb
      subst hb
      exact ⟨(hno' a ha).1, (hno' a ha).2, fun e => e⟩
    · intro x hx
      rcases List.mem_append.1 ((cins_perm _ _).mem_iff.1 hx) with h1 | h1
      · exact h.path x h1
      · rw [List.mem_singleton] at h1; subst h1; exact Int.le_refl _
    · intro x hx
      rcases List.mem_append.1 ((cins_perm _ _).mem_iff.1 hx) with h1 | h1
      · exact h.ids x h1
      · rw [List.mem_singleton] at h1; subst h1; exact ⟨h8, .inr h16⟩
end
theorem SimC.new (first : List UInt8) (h : first.length = 8) : SimC (cnew first) (cnew first) :=
  ⟨rfl, List.Perm.refl _, List.pairwise_singleton _ _, List.pairwise_singleton _ _, fun x hx => by simp [cnew] at hx; subst hx; show (-1 : Int) ≤ 0; omega, fun x hx => by simp [cnew] at hx; subst hx; exact ⟨h, .inl rfl⟩⟩

theorem pw_mem {R : Nm → Nm → Prop} {l : List Nm} (h : l.Pairwise R) : ∀ a ∈ l, ∀ b ∈ l, a = b ∨ R a b ∨ R b a := by
  induction l with
  | nil => intro a ha; cases ha
  | cons x l ih =>
    rw [List.pairwise_cons] at h
    intro a ha b hb
    rcases List.mem_cons.1 ha with e1 | h1
    · rcases List.mem_cons.1 hb with e2 | h2
      · exact .inl (e1.trans e2.symm)
      · rw [e1]; exact .inr (.inl (h.1 b h2))
    · rcases List.mem_cons.1 hb with e2 | h2
      · rw [e2]; exact .inr (.inr (h.1 a h1))
      · exact ih h.2 a h1 b h2
theorem find_perm {l m : List Nm} (h : l.Perm m) (q : Nm → Bool) (hu : ∀ a ∈ l, ∀ b ∈ l, q a = true → q b = true → a = b) : l.find? q = m.find? q := by
  cases hl : l.find? q with
  | none =>
    rw [List.find?_eq_none] at hl
    symm
    rw [List.find?_eq_none]
    exact fun x hx => hl x (h.mem_iff.2 hx)
  | some a =>
    cases hm : m.find? q with
    | none =>
      rw [List.find?_eq_none] at hm
      exact absurd (List.find?_some hl) (hm a (h.mem_iff.1 (List.mem_of_find?_eq_some hl)))
    | some b => rw [hu a (List.mem_of_find?_eq_some hl) b (h.mem_iff.2 (List.mem_of_find?_eq_some hm)) (List.find?_some hl) (List.find?_some hm)]
theorem rbest_spec : ∀ (l : List Nm) (b : Option Nm), (rbest l b = none → b = none ∧ ∀ x ∈ l, x.free = false) ∧ ∀ y, rbest l b = some y → (b = some y ∨ (y ∈ l ∧ y.free = true)) ∧ ∀ z, (b = some z ∨ (z ∈ l ∧ z.free = true)) → y.seq ≤ z.seq
  | [], b => ⟨fun h => ⟨h, fun x hx => by cases hx⟩, fun y hy => ⟨.inl hy, fun z hz => by
      rcases hz with hz | ⟨hz, _⟩
      · have hy' : b = some y := hy
        rw [hy'] at hz; injection hz with hz; rw [hz]; exact Nat.le_refl _
      · cases hz⟩⟩
  | x :: l, b => by
    have e : rbest (x :: l) b = rbest l (if x.free && (match b with | none => true | some y => decide (x.seq < y.seq)) then some x else b) := rfl
    rw [e]
    cases hx : x.free with
    | false =>
      simp only [Bool.false_and, Bool.false_eq_true, if_false]
      obtain ⟨h1, h2⟩ := rbest_spec l b
      refine ⟨fun h => ⟨(h1 h).1, fun z hz => ?_⟩, fun y hy => ?_⟩
      · rcases List.mem_cons.1 hz with rfl | hz
        · exact hx
        · exact (h1 h).2 z hz
      · obtain ⟨h3, h4⟩ := h2 y hy
        refine ⟨h3.imp id (fun h => ⟨List.mem_cons_of_mem _ h.1, h.2⟩), fun z hz => ?_⟩
        rcases hz with hz | ⟨hz, hf⟩
        · exact h4 z (.inl hz)
        · rcases List.mem_cons.1 hz with rfl | hz
          · rw [hx] at hf; cases hf
          · exact h4 z (.inr ⟨hz, hf⟩)
    | true =>
      cases b with
      | none =>
        simp only [Bool.and_self, if_true]
        obtain ⟨h1, h2⟩ := rbest_spec l (some x)
        refine ⟨fun h => (by have := (h1 h).1; cases this), fun y hy => ?_⟩
        obtain ⟨h3, h4⟩ := h2 y hy
        refine ⟨.inr ?_, fun z hz => ?_⟩
        · rcases h3 with h3 | h3
          · injection h3 with h3; subst h3; exact ⟨by simp, hx⟩
          · exact ⟨List.mem_cons_of_mem _ h3.1, h3.2⟩
        · rcases hz with hz | ⟨hz, hf⟩
          · cases hz
          · rcases List.mem_cons.1 hz with rfl | hz
            · exact h4 z (.inl rfl)
            · exact h4 z (.inr ⟨hz, hf⟩)
      | some b =>
        by_cases hlt : x.seq < b.seq
        · simp only [hlt, decide_true, Bool.and_self, if_true]
          obtain ⟨h1, h2⟩ := rbest_spec l (some x)
          refine ⟨fun h => (by have := (h1 h).1; cases this), fun y hy => ?_⟩
          obtain ⟨h3, h4⟩ := h2 y hy
          refine ⟨.inr ?_, fun z hz => ?_⟩
          · rcases h3 with h3 | h3
            · injection h3 with h3; subst h3; exact ⟨by simp, hx⟩
            · exact ⟨List.mem_cons_of_mem _ h3.1, h3.2⟩
          · rcases hz with hz | ⟨hz, hf⟩
            · injection hz with hz; subst hz
              have := h4 x (.inl rfl); omega
            · rcases List.mem_cons.1 hz with rfl | hz
              · exact h4 z (.inl rfl)
              · exact h4 z (.inr ⟨hz, hf⟩)
        · simp only [hlt, decide_false, Bool.and_false, Bool.false_eq_true, if_false]
          obtain ⟨h1, h2⟩ := rbest_spec l (some b)
          refine ⟨fun h => (by have := (h1 h).1; cases this), fun y hy => ?_⟩
          obtain ⟨h3, h4⟩ := h2 y hy
          refine ⟨h3.imp id (fun h => ⟨List.mem_cons_of_mem _ h.1, h.2⟩), fun z hz => ?_⟩
          rcases hz with hz | ⟨hz, hf⟩
          · exact h4 z (.inl hz)
          · rcases List.mem_cons.1 hz with rfl | hz
            · have := h4 b (.inl rfl); omega
            · exact h4 z (.inr ⟨hz, hf⟩)
theorem find_least {l : List Nm} (h : l.Pairwise (fun a b => a.seq < b.seq)) {a : Nm} (ha : l.find? Nm.free = some a) : ∀ z ∈ l, z.free = true → a.seq ≤ z.seq := by
  induction l with
  | nil => cases ha
  | cons x l ih =>
    rw [List.pairwise_cons] at h
    intro z hz hf
    cases hx : x.free with
    | true =>
      rw [List.find?_cons_of_pos hx] at ha
      injection ha with ha; subst ha
      rcases List.mem_cons.1 hz with rfl | hz
      · exact Nat.le_refl _
      · exact Nat.le_of_lt (h.1 z hz)
    | false =>
      rw [List.find?_cons_of_neg (by simp [hx])] at ha
      rcases List.mem_cons.1 hz with rfl | hz
      · rw [hx] at hf; cases hf
      · exact ih h.2 ha z hz hf
theorem free_pick {l m : List Nm} (h : l.Perm m) (hr : l.Pairwise (fun a b => a.seq < b.seq)) : l.find? Nm.free = rbest m none := by
  obtain ⟨h1, h2⟩ := rbest_spec m none
  cases hl : l.find? Nm.free with
  | none =>
    rw [List.find?_eq_none] at hl
    cases hm : rbest m none with
    | none => rfl
    | some y =>
      obtain ⟨h3, _⟩ := h2 y hm
      rcases h3 with h3 | ⟨h3, h4⟩
      · cases h3
      · exact absurd h4 (hl y (h.mem_iff.2 h3))
  | some a =>
    have ha := List.mem_of_find?_eq_some hl
    have hf := List.find?_some hl
    cases hm : rbest m none with
    | none => have := (h1 hm).2 a (h.mem_iff.1 ha); rw [hf] at this; cases this
    | some y =>
      obtain ⟨h3, h4⟩ := h2 y hm
      rcases h3 with h3 | ⟨h3, h5⟩
      · cases h3
      · have e1 := find_least hr hl y (h.mem_iff.2 h3) h5
        have e2 := h4 a (.inr ⟨h.mem_iff.1 ha, hf⟩)
        rcases pw_mem hr a ha y (h.mem_iff.2 h3) with e | e | e
        · rw [e]
        · omega
        · omega
theorem SimC.pick {s r : Cd} (h : SimC s r) (p : Int) (hp : 0 ≤ p) : cpick s.l p = rpick r.l p := by
  unfold cpick rpick
  rw [free_pick h.perm h.rise, find_perm h.perm (fun x => decide (x.path = p))]
  intro a ha b hb qa qb
  simp only [decide_eq_true_eq] at qa qb
  rcases pw_mem h.ne a ha b hb with e | e | e
  · exact e
  · have := e.2.2 (by rw [qa, qb]); omega
  · have := e.2.2 (by rw [qa, qb]); omega
theorem cset_mem {l : List Nm} {q : Nat} {p : Int} {x : Nm} (h : x ∈ cset l q p) : ∃ y ∈ l, x.seq = y.seq ∧ x.id = y.id ∧ x.tok = y.tok ∧ ((y.seq = q ∧ x.path = p) ∨ (y.seq ≠ q ∧ x.path = y.path)) := by
  obtain ⟨y, hy, e⟩ := List.mem_map.1 h
  refine ⟨y, hy, ?_⟩
  split at e
  · rename_i hq; subst e; exact ⟨rfl, rfl, rfl, .inl ⟨hq, rfl⟩⟩
  · rename_i hq; subst e; exact ⟨rfl, rfl, rfl, .inr ⟨hq, rfl⟩⟩
theorem SimC.for {s r : Cd} (h : SimC s r) (p : Int) : SimC (cforBy cpick s p).1 (cforBy rpick r p).1 ∧ (cforBy cpick s p).2 = (cforBy rpick r p).2 := by
  unfold cforBy
  by_cases hp : p < 0
  · rw [if_pos hp, if_pos hp]; exact ⟨h, rfl⟩
  · rw [if_neg hp, if_neg hp, ← h.pick p (by omega)]
    cases hk : cpick s.l p with
    | none => exact ⟨h, rfl⟩
    | some x =>
      have hx : x ∈ s.l ∧ (x.path = p ∨ ∀ y ∈ s.l, y.path ≠ p) := by
        unfold cpick at hk
        cases h1 : s.l.find? (fun x => decide (x.path = p)) with
        | some y =>
          rw [h1, Option.some_or] at hk
          injection hk with hk; subst hk
          exact ⟨List.mem_of_find?_eq_some h1, .inl (by simpa using List.find?_some h1)⟩
        | none =>
          rw [h1, Option.none_or] at hk
          rw [List.find?_eq_none] at h1
          exact ⟨List.mem_of_find?_eq_some hk, .inr (fun y hy e => h1 y hy (by simpa using e))⟩
      refine ⟨⟨rfl, h.perm.map _, ?_, ?_, ?_, ?_⟩, rfl⟩
      · exact List.Pairwise.map _ (fun a b hab => by split <;> split <;> exact hab) h.rise
      · refine List.Pairwise.map (R := fun a b => NmNe a b ∧ a ∈ s.l ∧ b ∈ s.l) _ (fun a b hab => ?_) ?_
        · obtain ⟨⟨n1, n2, n3⟩, ha, hb⟩ := hab
          have key : ∀ y ∈ s.l, y.seq ≠ x.seq → y.path ≠ p := fun y hy hne e => by
            rcases hx.2 with hxp | hxp
            · rcases pw_mem h.ne y hy x hx.1 with e1 | e1 | e1
              · exact hne (by rw [e1])
              · have := e1.2.2 (by rw [e, hxp]); omega
              · have := e1.2.2 (by rw [e, hxp]); omega
            · exact hxp y hy e
          by_cases ea : a.seq = x.seq
          · have eb : b.seq ≠ x.seq := fun e => n1 (by rw [ea, e])
            rw [if_pos ea, if_neg eb]
            exact ⟨n1, n2, fun e => absurd e.symm (key b hb eb)⟩
          · rw [if_neg ea]
            by_cases eb : b.seq = x.seq
            · rw [if_pos eb]
              exact ⟨n1, n2, fun e => absurd e (key a ha ea)⟩
            · rw [if_neg eb]; exact ⟨n1, n2, n3⟩
        · exact List.Pairwise.imp_of_mem (fun ha hb hab => ⟨hab, ha, hb⟩) h.ne
      · intro y hy
        obtain ⟨z, hz, _, _, _, e⟩ := cset_mem hy
        rcases e with ⟨_, e⟩ | ⟨_, e⟩
        · rw [e]; omega
        · rw [e]; exact h.path z hz
      · intro y hy
        obtain ⟨z, hz, _, e2, e3, _⟩ := cset_mem hy
        rw [e2, e3]; exact h.ids z hz
theorem nsort_perm (q : Nat) (l : List Nat) : (nsort q l).Perm (q :: l) := by
  unfold nsort
  have h := List.takeWhile_append_dropWhile (p := fun x : Nat => decide (x ≤ q)) (l := l)
  exact List.perm_middle.trans (List.Perm.cons q (by rw [h]))
theorem nsort_rise (q : Nat) {l : List Nat} (h : l.Pairwise (· ≤ ·)) : (nsort q l).Pairwise (· ≤ ·) := by
  induction l with
  | nil => simp [nsort]
  | cons x l ih =>
    rw [List.pairwise_cons] at h
    by_cases hle : x ≤ q
    · have e : nsort q (x :: l) = x :: nsort q l := by simp [nsort, hle]
      rw [e, List.pairwise_cons]
      refine ⟨fun y hy => ?_, ih h.2⟩
      rcases List.mem_cons.1 ((nsort_perm q l).mem_iff.1 hy) with rfl | h1
      · exact hle
      · exact h.1 y h1
    · have e : nsort q (x :: l) = q :: x :: l := by simp [nsort, hle]
      rw [e, List.pairwise_cons]
      refine ⟨fun y hy => ?_, List.pairwise_cons.2 h⟩
      rcases List.mem_cons.1 hy with rfl | h1
      · omega
      · have := h.1 y h1; omega
theorem nsorts : ∀ (l : List Nm) (out : List Nat), out.Pairwise (· ≤ ·) → (l.foldl (fun out x => nsort x.seq out) out).Pairwise (· ≤ ·) ∧ (l.foldl (fun out x => nsort x.seq out) out).Perm (l.map Nm.seq ++ out)
  | [], out, h => ⟨h, List.Perm.refl _⟩
  | x :: l, out, h => by
    obtain ⟨h1, h2⟩ := nsorts l (nsort x.seq out) (nsort_rise _ h)
    refine ⟨h1, h2.trans ?_⟩
    rw [List.map_cons, List.cons_append]
    exact ((nsort_perm _ _).append_left _).trans List.perm_middle
theorem SimC.ret {s r : Cd} (h : SimC s r) : SimC (cret s).1 (rret r).1 ∧ (cret s).2 = (rret r).2 := by
  have hf : (s.l.filter (Nm.old s.use)).Perm (r.l.filter (Nm.old r.use)) := by rw [h.use]; exact h.perm.filter _
  refine ⟨⟨h.use, ?_, ?_, ?_, ?_, ?_⟩, ?_⟩
  · unfold cret rret; simp only; rw [h.use]; exact h.perm.map _
  · exact List.Pairwise.map _ (fun a b hab => by split <;> split <;> exact hab) h.rise
  · exact List.Pairwise.map _ (fun a b hab => by split <;> split <;> exact hab) h.ne
  · intro x hx
    obtain ⟨y, hy, e⟩ := List.mem_map.1 hx
    split at e <;> (subst e; exact h.path y hy)
  · intro x hx
    obtain ⟨y, hy, e⟩ := List.mem_map.1 hx
    split at e <;> (subst e; exact h.ids y hy)
  · unfold cret rret
    simp only
    obtain ⟨h1, h2⟩ := nsorts (r.l.filter (Nm.old r.use)) [] List.Pairwise.nil
    rw [List.append_nil] at h2
    refine List.Perm.eq_of_pairwise (le := fun a b => a ≤ b) (fun a b _ _ h1 h2 => Nat.le_antisymm h1 h2) ?_ h1 ((hf.map _).trans h2.symm)
    exact List.Pairwise.map _ (fun a b hab => Nat.le_of_lt hab) (h.rise.filter _)
end Go.Proofs.Ytgmanhbfdjlhbaa
