/- RangesRising: what its states are, in plain words; append of a nil slice; a row that is guarded beside a Set. -/
import Derived.Test.YtdhdnpagdflgpaaRgH
namespace Go.Proofs.Ytdhdnpagdflgpaa
open Go.RowKit

structure Ri (mo : Nat) (s : Rs) (n k : Nat) : Prop where
  ok : s.Ok
  most : s.most = mo
  top : ∀ r, s.l.head? = some r → r.hi = n
  zero : s.l = [] → k = 0
  fl : s.floor ≤ n + 1
  bd : n ≤ 3 * k
  pos : k ≠ 0 → 1 ≤ n
theorem Ri.start (mo : Nat) : Ri mo (rsnew mo) 0 0 := ⟨rsnew_ok mo, rfl, by simp [rsnew], fun _ => rfl, by simp [rsnew], by omega, fun h => absurd rfl h⟩
section
variable {mo n k g : Nat} {s : Rs}
theorem Ri.le (h : Ri mo s n k) : ∀ r ∈ s.l, r.hi ≤ n := by
  intro r hr
  have ho := h.ok.ok
  have ht := h.top
  rcases hl : s.l with _ | ⟨a, t⟩
  · rw [hl] at hr; cases hr
  · rw [hl] at hr ho ht
    have ha := ht a rfl
    rcases List.mem_cons.1 hr with rfl | hr
    · omega
    · have := ho.cons.2.1 r hr
      have := ho.cons.1
      omega
theorem Ri.new (h : Ri mo s n k) : s.has (n + 1 + g) = false := by
  unfold Rs.has
  have := h.fl
  rw [decide_eq_false (by omega), Bool.false_or, ← Bool.not_eq_true]
  intro hm
  obtain ⟨r, hr, h1, h2⟩ := (rmem_iff _ _).1 hm
  have := h.le r hr
  omega
/-- What 'want' and 'floor' become. -/
def riW (s : Rs) (N : Nat) : List Rg := radd s.l N
theorem Ri.join (h : Ri mo s n k) {r : Rg} {t : List Rg} (hl : s.l = r :: t) (hm : 1 ≤ mo) (hk : k ≤ 100) : Ri mo (s.add (n + 1)) (n + 1) (k + 1) ∧ s.add (n + 1) = ⟨s.most, ⟨r.lo, n + 1⟩ :: t, s.floor⟩ := by
  have hr : r.hi = n := h.top r (by rw [hl]; rfl)
  have e : radd s.l (n + 1) = ⟨r.lo, n + 1⟩ :: t := by rw [hl]; exact radd_next r t (n + 1) (by omega)
  have hlen := h.ok.len
  have ea : s.add (n + 1) = ⟨s.most, ⟨r.lo, n + 1⟩ :: t, s.floor⟩ := by
    unfold Rs.add Rs.trim
    simp only [e]
    rw [if_neg (by rw [hl] at hlen; simp at hlen ⊢; omega)]
  have hb := h.bd
  have ho := (Rs.add_ok h.ok (h.new (g := 0)) (by omega) (by rw [h.most]; exact hm)).1
  refine ⟨⟨ho, by rw [ea]; exact h.most, ?_, ?_, ?_, by omega, fun _ => by omega⟩, ea⟩
  · rw [ea]; intro x hx; injection hx with hx; subst hx; rfl
  · rw [ea]; intro x; cases x
  · rw [ea]; have := h.fl; simp only; omega
theorem Ri.apart (h : Ri mo s n k) (hj : s.l = [] ∨ 0 < g) (hm : 1 ≤ mo) (hk : k ≤ 100) (hg : g < 3) :
    Ri mo (s.add (n + 1 + g)) (n + 1 + g) (k + 1) ∧ (s.l.length < mo → s.add (n + 1 + g) = ⟨s.most, ⟨n + 1 + g, n + 1 + g⟩ :: s.l, s.floor⟩) ∧
      (s.l.length = mo → ∃ r, (⟨n + 1 + g, n + 1 + g⟩ :: s.l)[mo]? = some r ∧ s.add (n + 1 + g) = ⟨s.most, (⟨n + 1 + g, n + 1 + g⟩ :: s.l).take mo, r.hi + 1⟩ ∧ r.hi ≤ n) := by
  have e : radd s.l (n + 1 + g) = ⟨n + 1 + g, n + 1 + g⟩ :: s.l := by
    apply radd_top
    intro r hr
    have := h.top r hr
    rcases hj with hj | hj
    · rw [hj] at hr; cases hr
    · omega
  have hlen := h.ok.len
  rw [h.most] at hlen
  have ho := (Rs.add_ok h.ok (h.new (g := g)) (by have := h.bd; omega) (by rw [h.most]; exact hm)).1
  have hb := h.bd
  have p1 : s.l.length < mo → s.add (n + 1 + g) = ⟨s.most, ⟨n + 1 + g, n + 1 + g⟩ :: s.l, s.floor⟩ := by
    intro hlt
    unfold Rs.add Rs.trim
    simp only [e]
    rw [if_neg (by rw [h.most]; simp; omega)]
  have p2 : s.l.length = mo → ∃ r, (⟨n + 1 + g, n + 1 + g⟩ :: s.l)[mo]? = some r ∧ s.add (n + 1 + g) = ⟨s.most, (⟨n + 1 + g, n + 1 + g⟩ :: s.l).take mo, r.hi + 1⟩ ∧ r.hi ≤ n := by
    intro hlt
    have hlt2 : mo < ((⟨n + 1 + g, n + 1 + g⟩ : Rg) :: s.l).length := by simp; omega
    refine ⟨_, List.getElem?_eq_getElem hlt2, ?_, ?_⟩
    · unfold Rs.add Rs.trim
      simp only [e]
      rw [if_pos (by rw [h.most]; simp; omega)]
      have e1 : ((⟨n + 1 + g, n + 1 + g⟩ : Rg) :: s.l).dropLast = (⟨n + 1 + g, n + 1 + g⟩ :: s.l).take mo := by
        rw [List.dropLast_eq_take, List.length_cons, Nat.add_sub_cancel, hlt]
      have e2 : ((⟨n + 1 + g, n + 1 + g⟩ : Rg) :: s.l).getLast? = some (((⟨n + 1 + g, n + 1 + g⟩ : Rg) :: s.l)[mo]) := by
        rw [List.getLast?_eq_getElem?]
        have : ((⟨n + 1 + g, n + 1 + g⟩ : Rg) :: s.l).length - 1 = mo := by simp; omega
        rw [this, List.getElem?_eq_getElem hlt2]
      rw [e1, e2]; rfl
    · have hmem : ((⟨n + 1 + g, n + 1 + g⟩ : Rg) :: s.l)[mo] ∈ s.l := by
        obtain ⟨q, hq⟩ : ∃ q, mo = q + 1 := ⟨mo - 1, by omega⟩
        subst hq
        rw [List.getElem_cons_succ]
        exact List.getElem_mem _
      exact h.le _ hmem
  refine ⟨?_, p1, p2⟩
  rcases Nat.lt_or_ge s.l.length mo with hlt | hge
  · have ea := p1 hlt
    refine ⟨ho, by rw [ea]; exact h.most, ?_, ?_, ?_, by omega, fun _ => by omega⟩
    · rw [ea]; intro x hx; injection hx with hx; subst hx; rfl
    · rw [ea]; intro x; cases x
    · rw [ea]; have := h.fl; simp only; omega
  · obtain ⟨r, hr, ea, hrn⟩ := p2 (by omega)
    obtain ⟨q, hq⟩ : ∃ q, mo = q + 1 := ⟨mo - 1, by omega⟩
    refine ⟨ho, by rw [ea]; exact h.most, ?_, ?_, ?_, by omega, fun _ => by omega⟩
    · rw [ea, hq]; intro x hx; injection hx with hx; subst hx; rfl
    · rw [ea, hq]; intro x; simp at x
    · rw [ea]; simp only; omega
theorem Ri.large (h : Ri mo s n (k + 1)) : (s.l.head?.map Rg.hi).getD 0 = n ∧ (!s.l.isEmpty) = true := by
  rcases hl : s.l with _ | ⟨r, t⟩
  · exact absurd (h.zero hl) (by omega)
  · exact ⟨h.top r (by rw [hl]; rfl), rfl⟩
theorem rs_low {s : Rs} (x : Nat) (h : x < s.floor) : s.has x = true := by
  unfold Rs.has; rw [decide_eq_true h]; rfl
end

theorem samer_n (b : Bool) (l m : List Rg) (n1 n2 : Nat) (e1 : l.length = n1) (e2 : m.length = n2) (A1 A2 : Option Addr) (c1 c2 : Nat) (w : World) (h1 : Rd w A1 (rgv l)) (h2 : Rd w A2 (rgv m)) (hl : l.length ≤ 1000000) (hm : m.length ≤ 1000000) (hb : decide (l = m) = b) :
    Calls Try.prog 13 #[.slice A1 n1 c1, .slice A2 n2 c2] w fun e w' => e = .returned (.bool b) ∧ Still w w' := by
  subst e1 e2
  exact samer_to b l m A1 A2 c1 c2 w h1 h2 hl hm hb
/-- The blocks below B, and that of a row. -/
def Pw (B : Nat) (A : Option Addr) (k : Nat) : Prop := k < B ∨ ∃ a, A = some a ∧ a.block = k
section
variable {P : Program} {ops : Array Oper} {rest : List Oper} {o : Oper} {a : Act} {Q : Exit → Act → World → Prop}
/-- 'append(v, xs...)', xs nil. -/
theorem wpList_appN {w : World} (hgd : o.guard = none) (s x : Operand) (t : TypeId)
    (ho : o.op = .call { callee := .builtin .append, args := #[s, x], argTypes := #[t, t] })
    (base : Nat) (e : TypeId) (z : Value) (size bytes : Nat) (hinfo : (P.info? e).map (fun i => (i.zero, i.size, i.bytes)) = some (some z, size, bytes)) (ht : P.underlying t = some (.slice e))
    (v : Value) (n : Nat) (xs : List Value) (hs : a.eval s = v) (hown : w.ownsRow base e size v n xs) (hx : a.eval x = .slice none 0 0)
    (h : wpList P ops Q rest (a.put o.dst v) w) : wpList P ops Q (o :: rest) a w := by
  obtain ⟨i, hi, hz, hsize, hby⟩ := info_parts hinfo
  refine wpList_plain hgd fun K hK => ?_
  have hrun := run_append_owned_none (P := P) w base t o.type e i size ht hi v n xs hown
  unfold Oper.wp
  simp only [execOp, ho, resolve, invoke, builtin, Sem.run_bind, Sem.run_pure, Result.andThen_ok, List.map_toArray, List.map_cons, List.map_nil, hs, hx, hrun]
  exact hK _ _ h
end
theorem rgv_settop (r : Rg) (t : List Rg) (N : Nat) : (rgv (r :: t)).set 1 (.int .u64 N) = rgv (⟨r.lo, N⟩ :: t) := by simp [rv, Rg.cells]
end Go.Proofs.Ytdhdnpagdflgpaa
