/- Rows of records of several cells: stores into them, cuts, loads, append. Nothing of the program. -/
import Derived.Test.YtgmanhbfdjlhbaaStill
import Derived.Lib.SliceRun
import Derived.Deep.RegionLaw
import Derived.Laws.Cells
namespace Go.Proofs.Ytgmanhbfdjlhbaa
open Go.RowKit

section
variable {base : Nat} {e : TypeId} {size n g cap : Nat}

/-- What a row holds behind some stores in a row. -/
theorem own_setCells : ∀ (vs : List Value) (o : Nat) (w : World) (xs : List Value), w.ownsRow base e size (.slice (some ⟨g, 0, none⟩) n cap) n xs → o + vs.length ≤ xs.length →
    (w.setCells g o vs).ownsRow base e size (.slice (some ⟨g, 0, none⟩) n cap) n (xs.take o ++ vs ++ xs.drop (o + vs.length)) ∧ Fr (fun k => k = g) w (w.setCells g o vs)
  | [], o, w, xs, h, _ => ⟨by simpa [World.setCells] using h, Fr.refl _ _⟩
  | v :: r, o, w, xs, h, ho => by
    simp only [List.length_cons] at ho
    have h1 := (h.stored o v).1
    have := own_setCells r (o + 1) _ _ h1 (by simp; omega)
    refine ⟨?_, Fr.trans ((Fr.refl (fun k => k = g) w).setCell (p := ⟨g, o, none⟩) (fun _ => rfl) v) this.2⟩
    have e : xs.take o ++ (v :: r) ++ xs.drop (o + (v :: r).length) = (xs.set o v).take (o + 1) ++ r ++ (xs.set o v).drop (o + 1 + r.length) := by
      rw [List.drop_set_of_lt (by omega), List.length_cons, show o + (r.length + 1) = o + 1 + r.length by omega]
      congr 1
      rw [List.take_succ_eq_append_getElem (by simp; omega), List.getElem_set_self, List.take_set_of_le (by omega)]
      simp
    rw [e]
    exact this.1

/-- The first m elements of a row. -/
theorem own_cut {w : World} {v : List Value} {m : Nat} (h : w.ownsRow base e size (.slice (some ⟨g, 0, none⟩) n cap) n v) (hm : m ≤ n) : w.ownsRow base e size (.slice (some ⟨g, 0, none⟩) m cap) m (v.take (m * size)) := by
  have hmn : m * size ≤ n * size := Nat.mul_le_mul_right _ hm
  refine ⟨by rw [List.length_take, h.1]; omega, ?_⟩
  rcases h.2 with ⟨h', _⟩ | ⟨g', cap', cur, h', hb, hg, hnc, hcm, hcs, htake⟩
  · simp at h'
  · simp only [Value.slice.injEq, Option.some.injEq, Addr.mk.injEq, and_true, true_and] at h'
    obtain ⟨rfl, rfl⟩ := h'
    exact .inr ⟨g, cap, cur, rfl, hb, hg, by omega, hcm, hcs, by rw [← htake, List.take_take, Nat.min_eq_left hmn]⟩
/-- A row's elements' own block is of its type. -/
theorem own_typed {w : World} {v : List Value} {p : Nat} {cs : Array Value} {t : TypeId} (h : w.ownsRow base e size (.slice (some ⟨g, 0, none⟩) n cap) n v) (hp : w.heap[p]? = some (.cells cs t (0, 0))) (ht : (t == e) = false) : p ≠ g := by
  rcases h.2 with ⟨h', _⟩ | ⟨g', cap', cur, h', hb, hg, hnc, hcm, hcs, htake⟩
  · simp at h'
  · simp only [Value.slice.injEq, Option.some.injEq, Addr.mk.injEq, and_true, true_and] at h'
    obtain ⟨rfl, rfl⟩ := h'
    rintro rfl
    rw [hg] at hp
    injection hp with hp
    injection hp with _ h2
    rw [h2] at ht
    simp at ht
end

theorem Rd.fresh_to {w : World} {g : Nat} (h : w.heap.size = g) (xs : List Value) (e : TypeId) (fr : Nat × Nat) : Rd (w.alloc (.cells xs.toArray e fr)) (some ⟨g, 0, none⟩) xs := by
  subst h; exact Rd.fresh_mark w xs e fr
theorem Rd.cells {w : World} {ad : Addr} {xs : List Value} (h : Rd w (some ad) xs) : ∀ j u, xs[j]? = some u → w.cell? (ad.add j) = some u := by
  intro j u hu
  obtain ⟨b, off, e, hc⟩ := h (by have := (List.getElem?_eq_some_iff.1 hu).1; omega)
  injection e with e
  subst e
  rw [WideShapes.add_plain]
  exact hc j u hu

section
variable {P : Program}
/-- A load of a record. -/
theorem load_rec {W : World} {b off i : Nat} {xs cs : List Value} (hr : Rd W (some ⟨b, off, none⟩) xs) (hk : ∀ j v, cs[j]? = some v → xs[i + j]? = some v) :
    Sem.run P (loadCellsFrom ⟨b, off + i, none⟩ 0 cs.length #[]) W = .ok cs.toArray W := by
  have := run_loadCells_list (P := P) (w := W) ⟨b, off + i, none⟩ cs (fun j v hj => by
    have h1 := hk j v hj
    have hl : 0 < xs.length := by have := (List.getElem?_eq_some_iff.1 h1).1; omega
    obtain ⟨b', off', e, hc⟩ := hr hl
    injection e with e
    injection e with e1 e2
    subst e1 e2
    rw [WideShapes.add_plain, show off + i + j = off + (i + j) by omega]
    exact hc _ _ h1)
  simpa [loadCells] using this

theorem wp_appS {w : World} {o : Oper} {a : Act} {K : Act → World → Prop} {Q : Exit → Act → World → Prop} (s x : Operand) (t : TypeId)
    (ho : o.op = .call { callee := .builtin .append, args := #[s, x], argTypes := #[t, t] })
    (base : Nat) (e : TypeId) (i : TypeInfo) (z : Value) (size bytes : Nat) (ht : P.underlying t = some (.slice e)) (hi : P.info? e = some i) (hz : i.zero = some z)
    (hsize : i.size = size) (hby : i.bytes = bytes) (hzs : z.cells.size = size) (hsz : 0 < size)
    (v : Value) (n : Nat) (xs : List Value) (hs : a.eval s = v) (hown : w.ownsRow base e size v n xs)
    (ad : Addr) (m c : Nat) (news : List Value) (hx : a.eval x = .slice (some ad) m c) (hl : news.length = m * size) (hr : ∀ j u, news[j]? = some u → w.cell? (ad.add j) = some u) (h1 : ∀ u ∈ news, u.oneCell' = true)
    (h63 : n + m ≤ maxLen) (hbytes : (n + m) * bytes ≤ 140737488355328) (hbase : base ≤ w.heap.size)
    (h : ∀ A' c' w', w'.ownsRow base e size (.slice A' (n + m) c') (n + m) (xs ++ news) → w.grownBy w' v.ownBlock →
      ((Value.slice A' (n + m) c').ownBlock = v.ownBlock ∨ (Value.slice A' (n + m) c').ownBlock = some w.heap.size) → K (a.put o.dst (.slice A' (n + m) c')) w') : o.wp P a w K Q := by
  obtain ⟨v', w', hrun, h2, h3, _, h5⟩ := run_append_own_at (P := P) w base t o.type e i z size bytes ht hi hz hsize hby hzs hsz v n xs hown ad m c news hl hr h1 h63 hbytes hbase
  obtain ⟨A', c', hv, _⟩ := own_shape w' h2
  subst hv
  unfold Oper.wp execOp
  simp only [ho, resolve, invoke, builtin, Sem.run_bind, Sem.run_pure, Result.andThen_ok, List.map_toArray, List.map_cons, List.map_nil, hs, hx, hrun]
  exact h A' c' w' h2 h3 h5

/-- 'append(v, xs...)', v the call's own row of records (or nil). -/
theorem wpList_appS {w : World} {ops : Array Oper} {rest : List Oper} {o : Oper} {a : Act} {Q : Exit → Act → World → Prop} (hgd : o.guard = none) (s x : Operand) (t : TypeId)
    (ho : o.op = .call { callee := .builtin .append, args := #[s, x], argTypes := #[t, t] })
    (base : Nat) (e : TypeId) (z : Value) (size bytes : Nat) (hinfo : (P.info? e).map (fun i => (i.zero, i.size, i.bytes)) = some (some z, size, bytes)) (ht : P.underlying t = some (.slice e)) (hzs : z.cells.size = size) (hsz : 0 < size)
    (v : Value) (n : Nat) (xs : List Value) (hs : a.eval s = v) (hown : w.ownsRow base e size v n xs)
    (ad : Addr) (m c : Nat) (news : List Value) (hx : a.eval x = .slice (some ad) m c) (hl : news.length = m * size) (hr : ∀ j u, news[j]? = some u → w.cell? (ad.add j) = some u) (h1 : ∀ u ∈ news, u.oneCell' = true)
    (h63 : n + m ≤ maxLen) (hbytes : (n + m) * bytes ≤ 140737488355328) (hbase : base ≤ w.heap.size)
    (h : ∀ A' c' w', w'.ownsRow base e size (.slice A' (n + m) c') (n + m) (xs ++ news) → w.grownBy w' v.ownBlock →
      ((Value.slice A' (n + m) c').ownBlock = v.ownBlock ∨ (Value.slice A' (n + m) c').ownBlock = some w.heap.size) → wpList P ops Q rest (a.put o.dst (.slice A' (n + m) c')) w') : wpList P ops Q (o :: rest) a w := by
  obtain ⟨i, hi, hz, hsize, hby⟩ := info_parts hinfo
  exact wpList_plain hgd fun _ hK => wp_appS s x t ho base e i z size bytes ht hi hz hsize hby hzs hsz v n xs hs hown ad m c news hx hl hr h1 h63 hbytes hbase fun A' c' w' h2 h3 h4 => hK _ _ (h A' c' w' h2 h3 h4)

/-- Cuts of a slice of records. -/
theorem cutS_l {t e : TypeId} {z : Value} {size bytes : Nat} (ht : P.underlying t = some (.slice e)) (hinfo : (P.info? e).map (fun i => (i.zero, i.size, i.bytes)) = some (some z, size, bytes)) (A : Option Addr) (len cap l m : Nat) (li : Int) (h1 : li = l) (hl : l + m = len) (hh : len ≤ cap) :
    ∀ w : World, (Instr.sliceAt t (.slice A len cap) (some (.int .i64 li)) none none).run P w = .ok (.slice (if cap = l then A else A.map (·.add (l * size))) m (cap - l)) w := by
  intro w
  subst h1
  obtain ⟨i, hi, -, hz, -⟩ := info_parts hinfo
  simp [Instr.sliceAt, Instr.slice, run_underlying ht, Instr.sliceBounds, run_sliceBound, (by omega : (l : Int) ≤ len), sizeOf, typeInfo, hi, hz, (by omega : len - l = m)]
theorem cutS_lh {t e : TypeId} {z : Value} {size bytes : Nat} (ht : P.underlying t = some (.slice e)) (hinfo : (P.info? e).map (fun i => (i.zero, i.size, i.bytes)) = some (some z, size, bytes)) (A : Option Addr) (len cap l h m : Nat) (li hi : Int) (h1 : li = l) (h2 : hi = h) (hl : l + m = h) (hh : h ≤ cap) :
    ∀ w : World, (Instr.sliceAt t (.slice A len cap) (some (.int .i64 li)) (some (.int .i64 hi)) none).run P w = .ok (.slice (if cap = l then A else A.map (·.add (l * size))) m (cap - l)) w := by
  intro w
  subst h1 h2
  obtain ⟨i, hi, -, hz, -⟩ := info_parts hinfo
  simp [Instr.sliceAt, Instr.slice, run_underlying ht, Instr.sliceBounds, run_sliceBound, (by omega : (l : Int) ≤ h), (by omega : (h : Int) ≤ cap), sizeOf, typeInfo, hi, hz, (by omega : h - l = m)]
theorem cutS_h {t e : TypeId} {z : Value} {size bytes : Nat} (ht : P.underlying t = some (.slice e)) (hinfo : (P.info? e).map (fun i => (i.zero, i.size, i.bytes)) = some (some z, size, bytes)) (A : Option Addr) (len cap h : Nat) (hi : Int) (h2 : hi = h) (hh : h ≤ cap) :
    ∀ w : World, (Instr.sliceAt t (.slice A len cap) none (some (.int .i64 hi)) none).run P w = .ok (.slice A h cap) w := by
  intro w
  subst h2
  obtain ⟨i, hi, -, hz, -⟩ := info_parts hinfo
  have e : (if cap = 0 then A else Option.map (fun x => x.add (0 * i.size)) A) = A := by
    split
    · rfl
    · cases A with
      | none => rfl
      | some a => simp [Addr.add]
  simp only [Nat.zero_mul] at e
  simp [Instr.sliceAt, Instr.slice, run_underlying ht, Instr.sliceBounds, run_sliceBound, (by omega : (h : Int) ≤ cap), sizeOf, typeInfo, hi, hz, e]
theorem cutS_lhm {t e : TypeId} {z : Value} {size bytes : Nat} (ht : P.underlying t = some (.slice e)) (hinfo : (P.info? e).map (fun i => (i.zero, i.size, i.bytes)) = some (some z, size, bytes)) (A : Option Addr) (len cap l h x : Nat) (li hi xi : Int) (h1 : li = l) (h2 : hi = h) (h3 : xi = x) (hl : l ≤ h) (hh : h ≤ x) (hx : x ≤ cap) :
    ∃ X m c, ∀ w : World, (Instr.sliceAt t (.slice A len cap) (some (.int .i64 li)) (some (.int .i64 hi)) (some (.int .i64 xi))).run P w = .ok (.slice X m c) w := by
  subst h1 h2 h3
  obtain ⟨i, hi, -, hz, -⟩ := info_parts hinfo
  refine ⟨if x = l then A else A.map (·.add (l * size)), h - l, x - l, fun w => ?_⟩
  simp [Instr.sliceAt, Instr.slice, run_underlying ht, Instr.sliceBounds, run_sliceBound, (by omega : (l : Int) ≤ h), (by omega : (h : Int) ≤ x), (by omega : (x : Int) ≤ cap), sizeOf, typeInfo, hi, hz]

/-- 'clear(s)', s a slice of n > 0 records. -/
theorem run_clear_rec (w : World) (t e ty : TypeId) (z : Value) (size : Nat) (ht : P.underlying t = some (.slice e)) (hv : ∀ w, (zeroValue e).run P w = .ok z w) (hz : z.cells.size = size) (h1 : ∀ u ∈ z.cells.toList, u.oneCell' = true) (b o c : Nat)
    (hc : ∀ j, j < size → (w.cell? ⟨b, o + j, none⟩).isSome = true) (hf : ∀ j, j < size → w.frozen? ⟨b, o + j, none⟩ = false) :
    (Builtin.clear_ #[t] ty #[.slice (some ⟨b, o, none⟩) 1 c]).run P w = .ok (.tuple #[]) (w.setCells b o z.cells.toList) := by
  have hzc : (Builtin.zeroCells z.cells 1).toList = z.cells.toList := by
    unfold Builtin.zeroCells
    apply List.ext_getElem
    · simp
    · intro i h1 h2
      simp at h1 h2
      simp [Nat.mod_eq_of_lt h2]
      exact getElem!_pos z.cells i h2
  have hst := run_storeCells_cells (P := P) b o z.cells.toList 0 w (by simpa [hz] using hc) (by simpa [hz] using hf) (by intro v hv'; exact h1 v hv')
  simp only [Nat.add_zero] at hst
  simp [Builtin.clear_, run_underlying ht, hv, hzc, hst]
end
end Go.Proofs.Ytgmanhbfdjlhbaa
