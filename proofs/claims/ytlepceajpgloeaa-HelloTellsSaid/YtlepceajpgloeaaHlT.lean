/- hello: arrays of 32 bytes: built into a hello, compared. (Printed by gen_hlT.py.) -/
import Derived.Test.YtlepceajpgloeaaHlQ
import Derived.ChangeKeysEq
import Derived.Laws.StructEq
namespace Go.Proofs.Ytlepceajpgloeaa
open Go.RowKit

theorem list32 (r : List UInt8) (h : r.length = 32) : ∃ x0 x1 x2 x3 x4 x5 x6 x7 x8 x9 x10 x11 x12 x13 x14 x15 x16 x17 x18 x19 x20 x21 x22 x23 x24 x25 x26 x27 x28 x29 x30 x31, r = [x0, x1, x2, x3, x4, x5, x6, x7, x8, x9, x10, x11, x12, x13, x14, x15, x16, x17, x18, x19, x20, x21, x22, x23, x24, x25, x26, x27, x28, x29, x30, x31] := by
  rcases r with _ | ⟨x0, _ | ⟨x1, _ | ⟨x2, _ | ⟨x3, _ | ⟨x4, _ | ⟨x5, _ | ⟨x6, _ | ⟨x7, _ | ⟨x8, _ | ⟨x9, _ | ⟨x10, _ | ⟨x11, _ | ⟨x12, _ | ⟨x13, _ | ⟨x14, _ | ⟨x15, _ | ⟨x16, _ | ⟨x17, _ | ⟨x18, _ | ⟨x19, _ | ⟨x20, _ | ⟨x21, _ | ⟨x22, _ | ⟨x23, _ | ⟨x24, _ | ⟨x25, _ | ⟨x26, _ | ⟨x27, _ | ⟨x28, _ | ⟨x29, _ | ⟨x30, _ | ⟨x31, _ | ⟨x32, r⟩⟩⟩⟩⟩⟩⟩⟩⟩⟩⟩⟩⟩⟩⟩⟩⟩⟩⟩⟩⟩⟩⟩⟩⟩⟩⟩⟩⟩⟩⟩⟩⟩
  all_goals first
    | (simp at h; done)
    | exact ⟨_, _, _, _, _, _, _, _, _, _, _, _, _, _, _, _, _, _, _, _, _, _, _, _, _, _, _, _, _, _, _, _, rfl⟩
theorem build27p (s : Bool) (r : List UInt8) (h : r.length = 32) (w : World) : (Instr.build 27 #[(0, .bool s), (1, .agg (bv r).toArray)]).run Try.prog w = .ok (.agg (hcl s r none 0 0)) w := by
  obtain ⟨x0, x1, x2, x3, x4, x5, x6, x7, x8, x9, x10, x11, x12, x13, x14, x15, x16, x17, x18, x19, x20, x21, x22, x23, x24, x25, x26, x27, x28, x29, x30, x31, rfl⟩ := list32 r h
  kernel_rfl
theorem build27q (s : Bool) (r : List UInt8) (A : Option Addr) (n c : Nat) (h : r.length = 32) (w : World) : (Instr.build 27 #[(0, .bool s), (1, .agg (bv r).toArray), (2, .slice A n c)]).run Try.prog w = .ok (.agg (hcl s r A n c)) w := by
  obtain ⟨x0, x1, x2, x3, x4, x5, x6, x7, x8, x9, x10, x11, x12, x13, x14, x15, x16, x17, x18, x19, x20, x21, x22, x23, x24, x25, x26, x27, x28, x29, x30, x31, rfl⟩ := list32 r h
  kernel_rfl
theorem eqItems_u8 (r q : List UInt8) (d : Nat) (w : World) : ∀ is : List Nat, (∀ i ∈ is, i < r.length ∧ i < q.length) → (Op.eqItems (d + 1) 5 1 (bv r).toArray (bv q).toArray is).run Try.prog w = .ok (is.all fun i => decide (r.getD i 0 = q.getD i 0)) w
  | [], _ => by simp [Op.eqItems]
  | i :: is, h => by
    obtain ⟨h1, h2⟩ := h i List.mem_cons_self
    have ih := eqItems_u8 r q d w is (fun j hj => h j (List.mem_cons_of_mem _ hj))
    have e1 : (part 5 (bv r).toArray (i * 1)).run Try.prog w = .ok (.int .u8 ((r.getD i 0).toNat : Int)) w := by
      rw [Nat.mul_one, List.getD_eq_getElem?_getD, List.getElem?_eq_getElem h1]
      simp [part, isAgg, run_underlying Try.underlying5, bv, h1]
    have e2 : (part 5 (bv q).toArray (i * 1)).run Try.prog w = .ok (.int .u8 ((q.getD i 0).toNat : Int)) w := by
      rw [Nat.mul_one, List.getD_eq_getElem?_getD, List.getElem?_eq_getElem h2]
      simp [part, isAgg, run_underlying Try.underlying5, bv, h2]
    have e3 := run_equalIn_int (P := Try.prog) (w := w) d 5 .u8 .u8 ((r.getD i 0).toNat : Int) ((q.getD i 0).toNat : Int) Try.underlying5
    simp only [Op.eqItems, Sem.run_bind, e1, e2, e3, Result.andThen_ok]
    by_cases hq : r.getD i 0 = q.getD i 0
    · rw [List.all_cons, decide_eq_true hq, hq]
      simpa using ih
    · have hne : (((r.getD i 0).toNat : Int) == ((q.getD i 0).toNat : Int)) = false := by
        rw [beq_eq_false_iff_ne]; intro e; exact hq (UInt8.toNat_inj.1 (by exact_mod_cast e))
      rw [List.all_cons, decide_eq_false hq, hne]
      simp
theorem info22 : ∃ i, Try.prog.info? 22 = some i := ⟨_, rfl⟩
theorem equal22 (r q : List UInt8) (hr : r.length = 32) (hq : q.length = 32) (w : World) : (Op.equal 22 (.agg (bv r).toArray) (.agg (bv q).toArray)).run Try.prog w = .ok (decide (r = q)) w := by
  obtain ⟨i, hi⟩ : ∃ i, Try.prog.info? 5 = some i := ⟨_, rfl⟩
  have hc : Try.prog.cellsOf 5 = 1 := by kernel_rfl
  unfold Op.equal
  rw [show Op.maxDepth = 9998 + 1 + 1 from rfl, run_equalIn_array (w := w) (9998 + 1) (bv r).toArray (bv q).toArray Try.underlying22 hi, hc, eqItems_u8 r q 9998 w _ (fun j hj => by have := List.mem_range.1 hj; omega)]
  congr 1
  rw [Bool.eq_iff_iff, List.all_eq_true, decide_eq_true_iff]
  constructor
  · intro h
    apply List.ext_getElem (by omega)
    intro k h1 h2
    have := of_decide_eq_true (h k (List.mem_range.2 (by omega)))
    rw [List.getD_eq_getElem?_getD, List.getD_eq_getElem?_getD, List.getElem?_eq_getElem h1, List.getElem?_eq_getElem h2] at this
    simpa using this
  · intro h; subst h; simp
theorem eql22 (r q : List UInt8) (hr : r.length = 32) (hq : q.length = 32) (w : World) : (binOp .eql 22 (.agg (bv r).toArray) (.agg (bv q).toArray)).run Try.prog w = .ok (.bool (decide (r = q))) w := by
  simp [binOp, equal22 r q hr hq]
theorem neq22 (r q : List UInt8) (hr : r.length = 32) (hq : q.length = 32) (w : World) : (binOp .neq 22 (.agg (bv r).toArray) (.agg (bv q).toArray)).run Try.prog w = .ok (.bool (!decide (r = q))) w := by
  simp [binOp, equal22 r q hr hq]
/-- A whole array out of a guarded operation that runs. -/
theorem wpList_loadG {P : Program} {ops : Array Oper} {rest : List Oper} {op : Oper} {a : Act} {w : World} {Q : Exit → Act → World → Prop} (hgd : Region.wanted op (yielded ops a.tmps) = true) (ty : TypeId) (x : Operand) (ho : op.op = .load ty x)
    (b o : Nat) (hx : a.eval x = .pointer (some ⟨b, o, none⟩)) (cs : List Value) (d : TypeDesc) (hc : w.rangeAt b o cs)
    (hu : P.underlying ty = some d) (hd : d.isRow = true) (hi : (P.info? ty).map (·.size) = some cs.length)
    (h : wpList P ops Q rest (a.put op.dst (.agg cs.toArray)) w) : wpList P ops Q (op :: rest) a w :=
  wpList_want hgd fun _ hK => wp_load_mid ty x ho b o hx cs d hc hu hd hi (hK _ _ h)
/-- A record put together, by its run. -/
theorem wpList_build {P : Program} {ops : Array Oper} {rest : List Oper} {op : Oper} {a : Act} {w : World} {Q : Exit → Act → World → Prop} (hgd : op.guard = none) (t : TypeId) (parts : Array (Nat × Operand)) (ho : op.op = .build t parts) (v : Value) (vs : Array (Nat × Value)) (hp : (parts.map fun (i, x) => (i, a.eval x)) = vs)
    (hv : (Instr.build t vs).run P w = .ok v w) (h : wpList P ops Q rest (a.put op.dst v) w) : wpList P ops Q (op :: rest) a w := by
  refine wpList_plain hgd fun _ hK => ?_
  subst hp
  unfold Oper.wp execOp
  simp only [ho, Sem.run_bind, hv, Result.andThen_ok, Sem.run_pure]
  exact hK _ _ h
end Go.Proofs.Ytlepceajpgloeaa
