/- Rows of records: copy into an own row; append of zero values; more of a row's room. Nothing of the program. -/
import Derived.Test.YtgmanhbfdjlhbaaRec
import Derived.Lib.AppendZerosOnto
import Derived.Laws.CopyOwn
namespace Go.Proofs.Ytgmanhbfdjlhbaa
open Go.RowKit

section
variable {P : Program} {base : Nat} {e : TypeId} {size n g cap : Nat}

/-- One more element of a row's room. -/
theorem own_more {w : World} {xs : List Value} {m : Nat} (h : w.ownsRow base e size (.slice (some ⟨g, 0, none⟩) n cap) n xs) (hm : n + m ≤ cap) :
    ∃ zs, zs.length = m * size ∧ w.ownsRow base e size (.slice (some ⟨g, 0, none⟩) (n + m) cap) (n + m) (xs ++ zs) := by
  have hl := h.1
  rcases h.2 with ⟨h', _⟩ | ⟨g', cap', cur, h', hb, hg, hnc, hcm, hcs, htake⟩
  · simp at h'
  · simp only [Value.slice.injEq, Option.some.injEq, Addr.mk.injEq, and_true, true_and] at h'
    obtain ⟨rfl, rfl⟩ := h'
    have hle : (n + m) * size ≤ cap * size := Nat.mul_le_mul_right _ hm
    have hle2 : n * size ≤ (n + m) * size := Nat.mul_le_mul_right _ (by omega)
    have he : (cur.toList.take ((n + m) * size)) = xs ++ (cur.toList.take ((n + m) * size)).drop (n * size) := by
      conv => lhs; rw [← List.take_append_drop (n * size) (cur.toList.take ((n + m) * size))]
      congr 1
      rw [List.take_take, Nat.min_eq_left hle2, htake]
    have hz : ((cur.toList.take ((n + m) * size)).drop (n * size)).length = m * size := by
      rw [List.length_drop, List.length_take, Array.length_toList, hcs, Nat.min_eq_left hle, Nat.add_mul]; omega
    refine ⟨_, hz, ?_, .inr ⟨g, cap, cur, rfl, hb, hg, hm, hcm, hcs, he⟩⟩
    rw [List.length_append, hl, hz, Nat.add_mul]

theorem run_copy_recs (w : World) (dT sT ty elem : TypeId) (b o dLen dCap : Nat) (a : Addr) (sLen sCap m : Nat) (cs : List Value)
    (hu : P.underlying dT = some (.slice elem)) (hs : (P.info? elem).map (·.size) = some size) (hm : m = Nat.min sLen dLen) (hn : cs.length = m * size)
    (hsrc : ∀ j v, cs[j]? = some v → w.cell? (a.add j) = some v) (hc : ∀ j, j < cs.length → (w.cell? ⟨b, o + j, none⟩).isSome = true) (hf : ∀ j, j < cs.length → w.frozen? ⟨b, o + j, none⟩ = false) (h1 : ∀ v ∈ cs, v.oneCell' = true) :
    (Builtin.copy_ #[dT, sT] ty #[.slice (some ⟨b, o, none⟩) dLen dCap, .slice (some a) sLen sCap]).run P w = .ok (goInt m) (w.setCells b o cs) := by
  have hl := run_loadCells_list (P := P) w a cs hsrc
  have hst := run_storeCells_cells (P := P) b o cs 0 w (by simpa using hc) (by simpa using hf) h1
  rw [hn] at hl
  cases hq : P.info? elem with
  | none => simp [hq] at hs
  | some i =>
    have hi : i.size = size := by simpa [hq] using hs
    simp [Builtin.copy_, run_underlying hu, Builtin.lenOf, Builtin.firstCells, sizeOf, typeInfo, hq, hi, ← hm, hl, hst]

theorem run_copyS {w : World} {xs : List Value} (hown : w.ownsRow base e size (.slice (some ⟨g, 0, none⟩) n cap) n xs) (dT sT ty : TypeId) (o dLen dCap : Nat) (a : Addr) (sLen sCap m : Nat) (cs : List Value)
    (hu : P.underlying dT = some (.slice e)) (hs : (P.info? e).map (·.size) = some size) (hm : m = Nat.min sLen dLen) (hn : cs.length = m * size)
    (hsrc : ∀ j v, cs[j]? = some v → w.cell? (a.add j) = some v) (hfit : o + cs.length ≤ xs.length) (h1 : ∀ v ∈ cs, v.oneCell' = true) :
    ∃ w', (Builtin.copy_ #[dT, sT] ty #[.slice (some ⟨g, o, none⟩) dLen dCap, .slice (some a) sLen sCap]).run P w = .ok (goInt m) w' ∧
      w'.ownsRow base e size (.slice (some ⟨g, 0, none⟩) n cap) n (xs.take o ++ cs ++ xs.drop (o + cs.length)) ∧ Fr (fun k => k = g) w w' := by
  have h2 := own_setCells cs o w xs hown hfit
  have hl := hown.1
  refine ⟨_, run_copy_recs w dT sT ty e g o dLen dCap a sLen sCap m cs hu hs hm hn hsrc (fun j hj => ?_) (fun j _ => hown.frozenAt _) h1, h2.1, h2.2⟩
  rw [hown.cellAt _ (by omega), List.getElem?_eq_getElem (by omega)]; rfl

/-- 'copy(d, s)' into an own row of records, for the walk. -/
theorem wpList_copyS {w : World} {ops : Array Oper} {rest : List Oper} {op : Oper} {act : Act} {Q : Exit → Act → World → Prop} (hgd : op.guard = none) (d s : Operand) (dT sT : TypeId)
    (ho : op.op = .call { callee := .builtin .copy, args := #[d, s], argTypes := #[dT, sT] }) {xs : List Value} (hown : w.ownsRow base e size (.slice (some ⟨g, 0, none⟩) n cap) n xs) (o dLen dCap : Nat) (a : Addr) (sLen sCap m : Nat) (cs : List Value)
    (hd : act.eval d = .slice (some ⟨g, o, none⟩) dLen dCap) (hsv : act.eval s = .slice (some a) sLen sCap)
    (hu : P.underlying dT = some (.slice e)) (hs : (P.info? e).map (·.size) = some size) (hm : m = Nat.min sLen dLen) (hn : cs.length = m * size)
    (hsrc : ∀ j v, cs[j]? = some v → w.cell? (a.add j) = some v) (hfit : o + cs.length ≤ xs.length) (h1 : ∀ v ∈ cs, v.oneCell' = true)
    (h : ∀ w', w'.ownsRow base e size (.slice (some ⟨g, 0, none⟩) n cap) n (xs.take o ++ cs ++ xs.drop (o + cs.length)) → Fr (fun k => k = g) w w' → wpList P ops Q rest (act.put op.dst (goInt m)) w') : wpList P ops Q (op :: rest) act w := by
  obtain ⟨w', hrun, h2, h3⟩ := run_copyS (P := P) hown dT sT op.type o dLen dCap a sLen sCap m cs hu hs hm hn hsrc hfit h1
  refine wpList_plain hgd fun K hK => ?_
  unfold Oper.wp
  simp only [execOp, ho, resolve, invoke, builtin, Sem.run_bind, Sem.run_pure, Result.andThen_ok, List.map_toArray, List.map_cons, List.map_nil, hd, hsv, hrun]
  exact hK _ _ (h w' h2 h3)
/-- The same as one step of a region that draws. -/
theorem step_copyS {w : World} {ops : Array Oper} {op : Oper} {act : Act} {K : Act → World → Prop} {Q : Exit → Act → World → Prop} {E : Prop} (hgd : op.guard = none) (d s : Operand) (dT sT : TypeId)
    (ho : op.op = .call { callee := .builtin .copy, args := #[d, s], argTypes := #[dT, sT] }) {xs : List Value} (hown : w.ownsRow base e size (.slice (some ⟨g, 0, none⟩) n cap) n xs) (o dLen dCap : Nat) (a : Addr) (sLen sCap m : Nat) (cs : List Value)
    (hd : act.eval d = .slice (some ⟨g, o, none⟩) dLen dCap) (hsv : act.eval s = .slice (some a) sLen sCap)
    (hu : P.underlying dT = some (.slice e)) (hs : (P.info? e).map (·.size) = some size) (hm : m = Nat.min sLen dLen) (hn : cs.length = m * size)
    (hsrc : ∀ j v, cs[j]? = some v → w.cell? (a.add j) = some v) (hfit : o + cs.length ≤ xs.length) (h1 : ∀ v ∈ cs, v.oneCell' = true)
    (h : ∀ w', w'.ownsRow base e size (.slice (some ⟨g, 0, none⟩) n cap) n (xs.take o ++ cs ++ xs.drop (o + cs.length)) → Fr (fun k => k = g) w w' → K (act.put op.dst (goInt m)) w') :
    if Region.wanted op (yielded ops act.tmps) = true then Oper.wp P op act w K Q else E := by
  have hw : Region.wanted op (yielded ops act.tmps) = true := by simp [Region.wanted, hgd]
  rw [if_pos hw]
  obtain ⟨w', hrun, h2, h3⟩ := run_copyS (P := P) hown dT sT op.type o dLen dCap a sLen sCap m cs hu hs hm hn hsrc hfit h1
  unfold Oper.wp
  simp only [execOp, ho, resolve, invoke, builtin, Sem.run_bind, Sem.run_pure, Result.andThen_ok, List.map_toArray, List.map_cons, List.map_nil, hd, hsv, hrun]
  exact h w' h2 h3

/-- 'append(s, make([]T, k)...)' where there is no room for k more. -/
theorem wpList_appZ {w : World} {ops : Array Oper} {rest : List Oper} {op : Oper} {act : Act} {Q : Exit → Act → World → Prop} (hgd : op.guard = none) (s x : Operand) (t tn : TypeId)
    (ho : op.op = .call { callee := .builtin .append, args := #[s, x], argTypes := #[t, tn] }) (z : Value) (bytes : Nat) (hinfo : (P.info? e).map (fun i => (i.zero, i.size, i.bytes)) = some (some z, size, bytes))
    (ht : P.underlying t = some (.slice e)) (htn : P.underlying tn = some (.int .i64)) (hzs : z.cells.size = size) (hsz : 0 < size)
    {xs : List Value} (hown : w.ownsRow base e size (.slice (some ⟨g, 0, none⟩) n cap) n xs) (k : Nat) (hs : act.eval s = .slice (some ⟨g, 0, none⟩) n cap) (hx : act.eval x = .int .i64 k) (h0 : 0 < k) (hg : cap < n + k)
    (h63 : n + k ≤ maxLen) (hbytes : (n + k) * bytes ≤ 140737488355328)
    (h : ∀ c' zs w', zs.length = k * size → w'.ownsRow w.heap.size e size (.slice (some ⟨w.heap.size, 0, none⟩) (n + k) c') (n + k) (xs ++ zs) → Below w.heap.size w w' → wpList P ops Q rest (act.put op.dst (.slice (some ⟨w.heap.size, 0, none⟩) (n + k) c')) w') : wpList P ops Q (op :: rest) act w := by
  obtain ⟨i, hi, hz, hsize, hby⟩ := info_parts hinfo
  have holds : ∀ j u, xs[j]? = some u → w.drew.cell? ((⟨g, 0, none⟩ : Addr).add j) = some u := hown.cells (g := g) rfl
  have hold : (Builtin.firstCells i.size n (.slice (some ⟨g, 0, none⟩) n cap)).run P w.drew = .ok xs.toArray w.drew := by
    have := run_loadCells_list (P := P) w.drew ⟨g, 0, none⟩ xs holds
    rw [hown.1] at this
    simp only [Builtin.firstCells, hsize, this]
  have hrun := Lib.run_append_grow_zeros (P := P) w t tn op.type e i z .i64 .i64 ht htn hi hz (some ⟨g, 0, none⟩) n cap xs hold k h0 (by omega) hg (by simp only [maxLen] at h63; omega) (by
    have : k * bytes ≤ (n + k) * bytes := Nat.mul_le_mul_right _ (by omega)
    rw [hby]; omega) (by rw [hby]; exact growslice_fits hg hbytes)
  have hge := grownCap_ge w (n + k) cap e
  have hcm : grownCap w (n + k) cap e ≤ maxLen := grownCap_le_maxLen w (n + k) cap e h63
  refine wpList_plain hgd fun K hK => ?_
  unfold Oper.wp
  simp only [execOp, ho, resolve, invoke, builtin, Sem.run_bind, Sem.run_pure, Result.andThen_ok, List.map_toArray, List.map_cons, List.map_nil, hs, hx, hrun]
  have hzl : (Builtin.zeroCells z.cells k).toList.length = k * size := by simp [size_zeroCells, hzs]
  refine hK _ _ (h _ (Builtin.zeroCells z.cells k).toList _ hzl ?_ (Fr.below (((Fr.refl NoS w).drew).alloc _)))
  refine ⟨by rw [List.length_append, hown.1, hzl, Nat.add_mul], .inr ⟨w.heap.size, _, _, rfl, Nat.le_refl _, heap_alloc_new w.drew _, hge, hcm, ?_, ?_⟩⟩
  · simp only [Array.size_append, List.size_toArray, size_zeroCells, hzs, hown.1, ← Nat.add_mul]
    congr 1
    omega
  · simp only [Array.toList_append]
    refine List.take_left' ?_
    rw [List.length_append, hzl, Nat.add_mul]
    show xs.length + _ = _
    rw [hown.1]
end
end Go.Proofs.Ytgmanhbfdjlhbaa
