/- cids: names compared; what Add does to the list, in plain Lean. -/
import Derived.Test.YtgmanhbfdjlhbaaCdJ
import Derived.ChangeKeysEq
import Derived.Laws.StructEq
namespace Go.Proofs.Ytgmanhbfdjlhbaa
open Go.RowKit

theorem eqItems_u8 (r q : List UInt8) (d : Nat) (w : World) : ∀ is : List Nat, (∀ i ∈ is, i < r.length ∧ i < q.length) → (Op.eqItems (d + 1) 5 1 (bv r).toArray (bv q).toArray is).run Try.prog w = .ok (is.all fun i => decide (r.getD i 0 = q.getD i 0)) w
  | [], _ => by simp [Op.eqItems]
  | i :: is, h => by
    obtain ⟨h1, h2⟩ := h i List.mem_cons_self
    have ih := eqItems_u8 r q d w is (fun j hj => h j (List.mem_cons_of_mem _ hj))
    have e1 : (part 5 (bv r).toArray (i * 1)).run Try.prog w = .ok (.int .u8 ((r.getD i 0).toNat : Int)) w := by
      rw [Nat.mul_one, List.getD_eq_getElem?_getD, List.getElem?_eq_getElem h1]
      simp [part, isAgg, run_underlying Try.underlying5, bv, h1]
    have e2 : (part 5 (bv q).toArray (i * 1)).run Try.prog w = .ok (.int .u8 ((q.getD i 0).toNat : Int)) w := by
      rw [Nat.mul_one, List.getD_eq_getElem?_getD, List.getElem?_eq_getElem h2]
      simp [part, isAgg, run_underlying Try.underlying5, bv, h2]
    have e3 := run_equalIn_int (P := Try.prog) (w := w) d 5 .u8 .u8 ((r.getD i 0).toNat : Int) ((q.getD i 0).toNat : Int) Try.underlying5
    simp only [Op.eqItems, Sem.run_bind, e1, e2, e3, Result.andThen_ok]
    by_cases hq : r.getD i 0 = q.getD i 0
    · rw [List.all_cons, decide_eq_true hq, hq]
      simpa using ih
    · have hne : (((r.getD i 0).toNat : Int) == ((q.getD i 0).toNat : Int)) = false := by
        rw [beq_eq_false_iff_ne]; intro e; exact hq (UInt8.toNat_inj.1 (by exact_mod_cast e))
      rw [List.all_cons, decide_eq_false hq, hne]
      simp
theorem equal8 (r q : List UInt8) (hr : r.length = 8) (hq : q.length = 8) (w : World) : (Op.equal 55 (.agg (bv r).toArray) (.agg (bv q).toArray)).run Try.prog w = .ok (decide (r = q)) w := by
  obtain ⟨i, hi⟩ : ∃ i, Try.prog.info? 5 = some i := ⟨_, rfl⟩
  have hc : Try.prog.cellsOf 5 = 1 := by kernel_rfl
  unfold Op.equal
  rw [show Op.maxDepth = 9998 + 1 + 1 from rfl, run_equalIn_array (w := w) (9998 + 1) (bv r).toArray (bv q).toArray Try.underlying55 hi, hc, eqItems_u8 r q 9998 w _ (fun j hj => by have := List.mem_range.1 hj; omega)]
  congr 1
  rw [Bool.eq_iff_iff, List.all_eq_true, decide_eq_true_iff]
  constructor
  · intro h
    apply List.ext_getElem (by omega)
    intro k h1 h2
    have := of_decide_eq_true (h k (List.mem_range.2 (by omega)))
    rw [List.getD_eq_getElem?_getD, List.getD_eq_getElem?_getD, List.getElem?_eq_getElem h1, List.getElem?_eq_getElem h2] at this
    simpa using this
  · intro h; subst h; simp
theorem eql8 (r q : List UInt8) (hr : r.length = 8) (hq : q.length = 8) (w : World) : (binOp .eql 55 (.agg (bv r).toArray) (.agg (bv q).toArray)).run Try.prog w = .ok (.bool (decide (r = q))) w := by
  simp [binOp, equal8 r q hr hq]
/-- Eight cells that are a name's bytes. -/
theorem cells8 {n : Nx} (h8 : n.x.id.length = 8) {a : Int} {x0 x1 x2 x3 x4 x5 x6 x7 : Int} {r : List Value} (h : n.cells = .int .u64 a :: .int .u8 x0 :: .int .u8 x1 :: .int .u8 x2 :: .int .u8 x3 :: .int .u8 x4 :: .int .u8 x5 :: .int .u8 x6 :: .int .u8 x7 :: r) :
    bv n.x.id = [.int .u8 x0, .int .u8 x1, .int .u8 x2, .int .u8 x3, .int .u8 x4, .int .u8 x5, .int .u8 x6, .int .u8 x7] := by
  have e : n.cells.take 9 = .int .u64 (n.x.seq : Int) :: bv n.x.id := by
    unfold Nx.cells
    rw [pad8_id h8, List.take_succ_cons, List.take_left' (by rw [bv_length, h8])]
  rw [h] at e
  simp only [List.take_succ_cons, List.take_zero, List.cons.injEq] at e
  exact e.2.symm
theorem bv8 (c : List UInt8) (h : c.length = 8) : ∃ y0 y1 y2 y3 y4 y5 y6 y7 : Int, bv c = [.int .u8 y0, .int .u8 y1, .int .u8 y2, .int .u8 y3, .int .u8 y4, .int .u8 y5, .int .u8 y6, .int .u8 y7] := by
  obtain ⟨x0, x1, x2, x3, x4, x5, x6, x7, rfl⟩ := list8 c h
  exact ⟨_, _, _, _, _, _, _, _, rfl⟩

/-! ### What Add does, in plain Lean -/
section
variable {l : List Nx} {use : Int} {q : Nat} {c t : List UInt8}
abbrev nms (l : List Nx) : List Nm := l.map Nx.x
theorem cadd_form (h : ¬ (c.length = 8 ∧ t.length = 16)) (m : List Nm) : caddE m q c t = 5 ∧ (cadd ⟨m, use⟩ q c t).l = m := by
  refine ⟨?_, ?_⟩
  · unfold caddE
    rw [if_pos]
    by_cases h1 : c.length = 8
    · exact .inr (fun h2 => h ⟨h1, h2⟩)
    · exact .inl h1
  · unfold cadd caddN
    rw [decide_eq_false h]; rfl
theorem cadd_hit (h8 : c.length = 8) (h16 : t.length = 16) (ne : (nms l).Pairwise NmNe) {y : Nx} (hy : y ∈ l) (hq : y.x.seq = q ∨ y.x.id = c) :
    caddE (nms l) q c t = (if y.x.seq = q ∧ y.x.id = c ∧ y.x.tok = t then 0 else 12) ∧ (cadd ⟨nms l, use⟩ q c t).l = nms l := by
  have hm : y.x ∈ nms l := List.mem_map.2 ⟨y, hy, rfl⟩
  have ha : (nms l).any (fun x => decide (x.seq = q ∨ x.id = c)) = true := List.any_eq_true.2 ⟨y.x, hm, decide_eq_true hq⟩
  have hu : ∀ z ∈ nms l, (z.seq = q ∨ z.id = c) → (z.seq = q ∧ z.id = c) → z = y.x := by
    intro z hz _ hz2
    rcases pw_mem ne z hz y.x hm with e | e | e
    · exact e
    · rcases hq with h | h
      · exact absurd (hz2.1.trans h.symm) e.1
      · exact absurd (hz2.2.trans h.symm) e.2.1
    · rcases hq with h | h
      · exact absurd (h.trans hz2.1.symm) e.1
      · exact absurd (h.trans hz2.2.symm) e.2.1
  refine ⟨?_, ?_⟩
  · unfold caddE
    rw [if_neg (by omega)]
    by_cases hall : y.x.seq = q ∧ y.x.id = c ∧ y.x.tok = t
    · rw [if_pos hall, if_pos (List.any_eq_true.2 ⟨y.x, hm, decide_eq_true hall⟩)]
    · rw [if_neg hall, if_neg, if_pos ha]
      intro h
      obtain ⟨z, hz, hz2⟩ := List.any_eq_true.1 h
      have hz3 := of_decide_eq_true hz2
      have := hu z hz (.inl hz3.1) ⟨hz3.1, hz3.2.1⟩
      subst this
      exact hall hz3
  · unfold cadd caddN
    rw [ha]; simp
theorem cadd_miss (h8 : c.length = 8) (h16 : t.length = 16) (hno : ∀ y ∈ l, ¬ (y.x.seq = q ∨ y.x.id = c)) :
    caddE (nms l) q c t = (if cfree (nms l) = 8 then 9 else 0) ∧ caddN (nms l) q c t = decide (cfree (nms l) ≠ 8) := by
  have ha : (nms l).any (fun x => decide (x.seq = q ∨ x.id = c)) = false := by
    rw [List.any_eq_false]
    intro x hx
    obtain ⟨y, hy, rfl⟩ := List.mem_map.1 hx
    simpa using hno y hy
  have hb : (nms l).any (fun x => decide (x.seq = q ∧ x.id = c ∧ x.tok = t)) = false := by
    rw [List.any_eq_false]
    intro x hx
    obtain ⟨y, hy, rfl⟩ := List.mem_map.1 hx
    have := hno y hy
    simp only [decide_eq_true_eq]
    exact fun e => this (.inl e.1)
  refine ⟨?_, ?_⟩
  · unfold caddE
    rw [if_neg (by omega), hb, ha]; simp
  · unfold caddN
    rw [ha, decide_eq_true ⟨h8, h16⟩]; simp
theorem take_tw {α : Type} (p : α → Bool) : ∀ l : List α, l.take (l.takeWhile p).length = l.takeWhile p
  | [] => rfl
  | x :: l => by
    rw [List.takeWhile_cons]
    split
    · rw [List.length_cons, List.take_succ_cons, take_tw p l]
    · rfl
theorem drop_tw {α : Type} (p : α → Bool) : ∀ l : List α, l.drop (l.takeWhile p).length = l.dropWhile p
  | [] => rfl
  | x :: l => by
    rw [List.takeWhile_cons, List.dropWhile_cons]
    split
    · rw [List.length_cons, List.drop_succ_cons, drop_tw p l]
    · rfl
theorem cins_at (n : Nx) (l : List Nx) : nms (l.take (cpos l n.x.seq) ++ n :: l.drop (cpos l n.x.seq)) = cins n.x (nms l) := by
  have e1 : (nms l).takeWhile (fun x => decide (x.seq < n.x.seq)) = nms (l.takeWhile fun x => decide (x.x.seq < n.x.seq)) := by
    unfold nms; rw [List.takeWhile_map]; rfl
  have e2 : (nms l).dropWhile (fun x => decide (x.seq < n.x.seq)) = nms (l.dropWhile fun x => decide (x.x.seq < n.x.seq)) := by
    unfold nms; rw [List.dropWhile_map]; rfl
  have e3 : l.take (cpos l n.x.seq) = l.takeWhile fun x => decide (x.x.seq < n.x.seq) := take_tw _ l
  have e4 : l.drop (cpos l n.x.seq) = l.dropWhile fun x => decide (x.x.seq < n.x.seq) := drop_tw _ l
  unfold cins
  rw [e1, e2, e3, e4]
  simp [nms]
theorem rise_le (rise : (nms l).Pairwise (fun a b => a.seq < b.seq)) : ∀ (i j : Nat) (x y : Nx), i ≤ j → l[i]? = some x → l[j]? = some y → x.x.seq ≤ y.x.seq := by
  intro i j x y hij hx hy
  rcases Nat.lt_or_ge i j with h | h
  · obtain ⟨hi, rfl⟩ := List.getElem?_eq_some_iff.1 hx
    obtain ⟨hj, rfl⟩ := List.getElem?_eq_some_iff.1 hy
    have := List.pairwise_iff_getElem.1 rise i j (by simpa using hi) (by simpa using hj) h
    simp only [List.getElem_map] at this
    omega
  · have : i = j := by omega
    subst this
    rw [hx] at hy; injection hy with hy; rw [hy]; exact Nat.le_refl _
end
end Go.Proofs.Ytgmanhbfdjlhbaa
