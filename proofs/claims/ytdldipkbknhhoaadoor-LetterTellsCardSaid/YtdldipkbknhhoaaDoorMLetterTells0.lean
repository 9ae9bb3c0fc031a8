/- What the proof of LetterTells stands on, part 0: 18 texts of ours, one behind the other. -/
import Derived.Test.YtdldipkbknhhoaaDoorRows
import Derived.WalkKit
import Derived.WalkSpells
import Derived.WalkLawsBesides
import Derived.Maps.AppendAt
import Derived.Deep.AppendLies
import Derived.Deep.Draws
import Derived.BigQuiet
import Derived.Deep.QuietTactic
import Derived.Lib.Hide
import Derived.Lib.AppendStr
import Derived.Laws.BytesArg
import Derived.Laws.OwnMore
import Derived.OneCell
import Derived.Lib.SliceRun
import Derived.Deep.RegionLaw
import Derived.Laws.Cells
import Derived.Shelf.Abstract
import Derived.Lib.AppendZerosOnto
import Derived.Laws.CopyOwn
/- Plain words for slices that read as lists, and for what a call may turn in memory; and the laws that hand them on. Nothing of the program. -/
namespace Go.Proofs.YtdldipkbknhhoaaDoor
open Go.RowKit

/-! ### What a call may turn: the blocks in S, and new ones -/
structure Fr (S : Nat → Prop) (w w' : World) : Prop where
  os : w'.os = w.os
  tape : w'.tape = w.tape
  output : w'.output = w.output
  size : w.heap.size ≤ w'.heap.size
  block : ∀ k, k < w.heap.size → ¬ S k → w'.heap[k]? = w.heap[k]?

def NoS (_ : Nat) : Prop := False

theorem Fr.refl (S : Nat → Prop) (w : World) : Fr S w w := ⟨rfl, rfl, rfl, Nat.le_refl _, fun _ _ _ => rfl⟩
theorem Fr.trans {S : Nat → Prop} {a b c : World} (h : Fr S a b) (k : Fr S b c) : Fr S a c :=
  ⟨k.os.trans h.os, k.tape.trans h.tape, k.output.trans h.output, Nat.le_trans h.size k.size,
    fun i hi hs => (k.block i (Nat.lt_of_lt_of_le hi h.size) hs).trans (h.block i hi hs)⟩
/-- Two steps, the second may turn what the first had made. -/
theorem Fr.trans' {S T : Nat → Prop} {a b c : World} (h : Fr S a b) (k : Fr T b c) (hT : ∀ i, T i → i < a.heap.size → S i) : Fr S a c :=
  ⟨k.os.trans h.os, k.tape.trans h.tape, k.output.trans h.output, Nat.le_trans h.size k.size,
    fun i hi hs => (k.block i (Nat.lt_of_lt_of_le hi h.size) (fun ht => hs (hT i ht hi))).trans (h.block i hi hs)⟩
theorem Fr.mono {S T : Nat → Prop} {a b : World} (h : Fr S a b) (hT : ∀ i, S i → i < a.heap.size → T i) : Fr T a b :=
  ⟨h.os, h.tape, h.output, h.size, fun i hi hs => h.block i hi (fun x => hs (hT i x hi))⟩
theorem Fr.drewN {S : Nat → Prop} {a b : World} (h : Fr S a b) (n : Nat) : Fr S a (b.drewN n) := ⟨h.os, h.tape, h.output, h.size, h.block⟩
theorem Fr.drew {S : Nat → Prop} {a b : World} (h : Fr S a b) : Fr S a b.drew := ⟨h.os, h.tape, h.output, h.size, h.block⟩
theorem Fr.alloc {S : Nat → Prop} {a b : World} (h : Fr S a b) (o : Obj) : Fr S a (b.alloc o) :=
  ⟨h.os, h.tape, h.output, Nat.le_trans h.size (by simp), fun i hi hs => (Below.heap_alloc b o i (Nat.lt_of_lt_of_le hi h.size)).trans (h.block i hi hs)⟩
theorem Fr.setCell {S : Nat → Prop} {a b : World} (h : Fr S a b) {p : Addr} (hp : p.block < a.heap.size → S p.block) (u : Value) : Fr S a (b.setCell p u) :=
  ⟨h.os, h.tape, h.output, by simpa [World.setCell] using h.size, fun i hi hs => (Below.heap_setCell b p u i (by
    rintro rfl
    exact hs (hp hi))).trans (h.block i hi hs)⟩
theorem Fr.grown {S : Nat → Prop} {a b c : World} {row : Option Nat} (h : Fr S a b) (hg : b.grownBy c row) (hr : ∀ k, row = some k → k < a.heap.size → S k) : Fr S a c :=
  ⟨hg.os.trans h.os, hg.tape.trans h.tape, hg.output.trans h.output, Nat.le_trans h.size hg.size,
    fun i hi hs => (hg.block i (Nat.lt_of_lt_of_le hi h.size) (fun e => hs (hr i e.symm hi))).trans (h.block i hi hs)⟩
theorem Fr.of_below {w w' : World} (h : Below w.heap.size w w') (S : Nat → Prop) : Fr S w w' := ⟨h.os, h.tape, h.output, h.size, fun k hk _ => h.block k hk⟩
theorem Fr.below {w w' : World} (h : Fr NoS w w') : Below w.heap.size w w' := ⟨h.os, h.tape, h.output, h.size, fun k hk => h.block k hk (fun x => x)⟩
theorem Fr.under {S : Nat → Prop} {B : Nat} {a w w' : World} (hb : Below B a w) (hB : B ≤ w.heap.size) (h : Fr S w w') (hS : ∀ k, S k → k < w.heap.size → B ≤ k) : Below B a w' :=
  hb.trans ⟨h.os, h.tape, h.output, h.size, fun k hk => h.block k (by omega) (fun x => by have := hS k x (by omega); omega)⟩
theorem Fr.cell {S : Nat → Prop} {w w' : World} (h : Fr S w w') {p : Addr} (hp : p.block < w.heap.size) (hs : ¬ S p.block) : w'.cell? p = w.cell? p :=
  World.cell?_of_block (w := w) (h.block p.block hp hs)
theorem Fr.frozen {S : Nat → Prop} {w w' : World} (h : Fr S w w') {p : Addr} (hp : p.block < w.heap.size) (hs : ¬ S p.block) : w'.frozen? p = w.frozen? p :=
  World.frozen?_of_block (w := w) (h.block p.block hp hs)

/-! ### A slice that reads as a list of one-cell values -/
def Rd (w : World) (A : Option Addr) (xs : List Value) : Prop :=
  0 < xs.length → ∃ b off, A = some ⟨b, off, none⟩ ∧ ∀ k u, xs[k]? = some u → w.cell? ⟨b, off + k, none⟩ = some u

/-- In which block the elements lie is in S. -/
def InS (S : Nat → Prop) (A : Option Addr) (n : Nat) : Prop := 0 < n → ∀ a, A = some a → S a.block

section
variable {w w' : World} {A : Option Addr} {xs : List Value}
theorem Rd.nil (w : World) (A : Option Addr) : Rd w A [] := fun h => absurd h (by simp)
theorem Rd.heap (h : Rd w A xs) (hh : w'.heap = w.heap) : Rd w' A xs := fun hn => by
  obtain ⟨b, off, e, hc⟩ := h hn
  exact ⟨b, off, e, fun k u hu => (World.cell?_of_block (w := w) (by rw [hh])).trans (hc k u hu)⟩
theorem Rd.drewN (h : Rd w A xs) (n : Nat) : Rd (w.drewN n) A xs := h.heap rfl
theorem Rd.drew (h : Rd w A xs) : Rd w.drew A xs := h.heap rfl
theorem Rd.lt (h : Rd w A xs) (hn : 0 < xs.length) : ∃ a, A = some a ∧ a.block < w.heap.size := by
  obtain ⟨b, off, e, hc⟩ := h hn
  exact ⟨_, e, World.block_lt_of_cell? w _ (hc 0 _ (List.getElem?_eq_getElem hn))⟩
theorem Rd.fr {S : Nat → Prop} (h : Rd w A xs) (f : Fr S w w') (hS : 0 < xs.length → ∀ a, A = some a → ¬ S a.block) : Rd w' A xs := fun hn => by
  obtain ⟨b, off, e, hc⟩ := h hn
  refine ⟨b, off, e, fun k u hu => ?_⟩
  have := hc k u hu
  rw [← this]
  exact f.cell (World.block_lt_of_cell? w _ this) (by have := hS hn _ e; exact this)
theorem Rd.below (h : Rd w A xs) (f : Below w.heap.size w w') : Rd w' A xs := h.fr (Fr.of_below f NoS) (fun _ _ _ x => x)
theorem Rd.at_ (h : Rd w A xs) {k : Nat} (hk : k < xs.length) : ∃ b off, A = some ⟨b, off, none⟩ ∧ w.cell? ⟨b, off + k, none⟩ = some xs[k] := by
  obtain ⟨b, off, e, hc⟩ := h (by omega)
  exact ⟨b, off, e, hc k _ (List.getElem?_eq_getElem hk)⟩
theorem Rd.take (h : Rd w A xs) (k : Nat) : Rd w A (xs.take k) := fun hn => by
  obtain ⟨b, off, e, hc⟩ := h (by simp at hn; omega)
  refine ⟨b, off, e, fun j u hu => hc j u ?_⟩
  rw [List.getElem?_take] at hu
  split at hu
  · exact hu
  · cases hu
/-- 's[k:]', as the model has its address. -/
theorem Rd.drop (h : Rd w A xs) {k cap : Nat} (hk : k ≤ xs.length) (hc : xs.length ≤ cap) : Rd w (if cap = k then A else A.map (·.add k)) (xs.drop k) := fun hn => by
  obtain ⟨b, off, e, hcell⟩ := h (by simp at hn; omega)
  have : k < xs.length := by simp at hn; omega
  rw [if_neg (by omega)]
  subst e
  refine ⟨b, off + k, by simp [WideShapes.add_plain], fun j u hu => ?_⟩
  rw [List.getElem?_drop] at hu
  rw [Nat.add_assoc]
  exact hcell _ u hu
theorem Rd.alloc {w : World} {A : Option Addr} {xs : List Value} (h : Rd w A xs) (o : Obj) : Rd (w.alloc o) A xs := h.fr ((Fr.refl NoS w).alloc o) (fun _ _ _ x => x)
theorem Rd.grown {w w' : World} {A : Option Addr} {xs : List Value} {row : Option Nat} (h : Rd w A xs) (hg : w.grownBy w' row) (hne : 0 < xs.length → ∀ a, A = some a → row ≠ some a.block) : Rd w' A xs :=
  h.fr (S := fun k => row = some k) ((Fr.refl _ w).grown hg (fun _ hk _ => hk)) (fun hn a ha => hne hn a ha)
/-- A new row reads so. -/
theorem Rd.fresh (w : World) (xs : List Value) (e : TypeId) : Rd (w.alloc (.cells xs.toArray e)) (some ⟨w.heap.size, 0, none⟩) xs := fun _ =>
  ⟨w.heap.size, 0, rfl, fun k u hu => by rw [Nat.zero_add, World.cell?_alloc_new]; simpa using hu⟩
theorem Rd.freshAt {w : World} {g : Nat} (hg : w.heap.size = g) (xs : List Value) (e : TypeId) {cs : Array Value} (hc : cs = xs.toArray) : Rd (w.alloc (.cells cs e)) (some ⟨g, 0, none⟩) xs := by
  subst hg hc; exact Rd.fresh w xs e
theorem Rd.of_own {base e n c : Nat} (h : w.ownsRow base e 1 (.slice A n c) n xs) : Rd w A xs := fun hn => by
  have hl := h.1
  obtain ⟨g, cap, hv, _, hlt⟩ := h.form (by omega)
  have hA : A = some ⟨g, 0, none⟩ := by injection hv
  subst hA
  refine ⟨g, 0, rfl, fun k u hu => ?_⟩
  have := h.cells (g := g) rfl k u hu
  rwa [WideShapes.add_plain] at this
end

/-! ### append onto a row of the call's own; the source nil, empty or not -/
section
variable {P : Program} (w : World)

theorem run_app_nil (base : Nat) (t ty e : TypeId) (i : TypeInfo) (size : Nat) (ht : P.underlying t = some (.slice e)) (hi : P.info? e = some i)
    (v : Value) (n : Nat) (xs : List Value) (hown : w.ownsRow base e size v n xs) (c : Nat) : (Builtin.append_ #[t, t] ty #[v, .slice none 0 c]).run P w = .ok v w := by
  rcases hown.2 with ⟨rfl, rfl⟩ | ⟨g, cap, cur, rfl, _, _, hnc, _⟩
  · simp [Builtin.append_, run_underlying ht, sizeOf, typeInfo, hi, Builtin.lenOf, Builtin.firstCells]
  · simp [Builtin.append_, run_underlying ht, sizeOf, typeInfo, hi, Builtin.lenOf, Builtin.firstCells, hnc, storeCells]

theorem own_shape {base e size n : Nat} {v : Value} {xs : List Value} (h : w.ownsRow base e size v n xs) : ∃ A c, v = .slice A n c ∧ n ≤ c ∧ c ≤ maxLen := by
  rcases h.2 with ⟨rfl, rfl⟩ | ⟨g, cap, cur, rfl, _, _, hnc, hm, _⟩
  · exact ⟨none, 0, rfl, Nat.le_refl _, by simp [maxLen]⟩
  · exact ⟨_, cap, rfl, hnc, hm⟩

theorem run_app (base : Nat) (t ty e : TypeId) (i : TypeInfo) (z : Value) (bytes : Nat) (ht : P.underlying t = some (.slice e)) (hi : P.info? e = some i) (hz : i.zero = some z)
    (hsize : i.size = 1) (hby : i.bytes = bytes) (hzs : z.cells.size = 1)
    (v : Value) (n : Nat) (xs : List Value) (hown : w.ownsRow base e 1 v n xs)
    (A : Option Addr) (m c : Nat) (news : List Value) (hl : news.length = m) (hr : Rd w A news) (h1 : ∀ u ∈ news, u.oneCell' = true)
    (h63 : n + m ≤ maxLen) (hbytes : (n + m) * bytes ≤ 140737488355328) (hbase : base ≤ w.heap.size) :
    ∃ A' c' w', (Builtin.append_ #[t, t] ty #[v, .slice A m c]).run P w = .ok (.slice A' (n + m) c') w' ∧ w'.ownsRow base e 1 (.slice A' (n + m) c') (n + m) (xs ++ news) ∧ w.grownBy w' v.ownBlock ∧
      ((Value.slice A' (n + m) c').ownBlock = v.ownBlock ∨ (Value.slice A' (n + m) c').ownBlock = some w.heap.size) := by
  rcases A with _ | ad
  · have hm : m = 0 := by
      rcases Nat.eq_zero_or_pos m with h0 | h0
      · exact h0
      · obtain ⟨b, off, h, _⟩ := hr (by omega)
        cases h
    subst hm
    have hn : news = [] := List.eq_nil_of_length_eq_zero (by simpa using hl)
    subst hn
    obtain ⟨A', c', hv, _⟩ := own_shape w hown
    subst hv
    exact ⟨A', c', w, run_app_nil w base t ty e i 1 ht hi _ n xs hown c, by simpa using hown, World.grownBy.refl w _, .inl rfl⟩
  · have hcells : ∀ j u, news[j]? = some u → w.cell? (ad.add j) = some u := by
      intro j u hu
      rcases Nat.eq_zero_or_pos m with h0 | h0
      · have hn : news = [] := List.eq_nil_of_length_eq_zero (by omega)
        subst hn
        simp at hu
      · obtain ⟨b, off, h, hc⟩ := hr (by omega)
        injection h with h
        subst h
        rw [WideShapes.add_plain]
        exact hc j u hu
    obtain ⟨v', w', hrun, h2, h3, _, h5⟩ := run_append_own_at (P := P) w base t ty e i z 1 bytes ht hi hz hsize hby hzs (by omega) v n xs hown ad m c news (by omega) hcells h1 h63 hbytes hbase
    obtain ⟨A', c', hv, _⟩ := own_shape w' h2
    subst hv
    exact ⟨A', c', w', hrun, h2, h3, h5⟩

theorem wp_app {o : Oper} {a : Act} {K : Act → World → Prop} {Q : Exit → Act → World → Prop} (s x : Operand) (t : TypeId)
    (ho : o.op = .call { callee := .builtin .append, args := #[s, x], argTypes := #[t, t] })
    (base : Nat) (e : TypeId) (i : TypeInfo) (z : Value) (bytes : Nat) (ht : P.underlying t = some (.slice e)) (hi : P.info? e = some i) (hz : i.zero = some z)
    (hsize : i.size = 1) (hby : i.bytes = bytes) (hzs : z.cells.size = 1)
    (v : Value) (n : Nat) (xs : List Value) (hs : a.eval s = v) (hown : w.ownsRow base e 1 v n xs)
    (A : Option Addr) (m c : Nat) (news : List Value) (hx : a.eval x = .slice A m c) (hl : news.length = m) (hr : Rd w A news) (h1 : ∀ u ∈ news, u.oneCell' = true)
    (h63 : n + m ≤ maxLen) (hbytes : (n + m) * bytes ≤ 140737488355328) (hbase : base ≤ w.heap.size)
    (h : ∀ A' c' w', w'.ownsRow base e 1 (.slice A' (n + m) c') (n + m) (xs ++ news) → w.grownBy w' v.ownBlock →
      ((Value.slice A' (n + m) c').ownBlock = v.ownBlock ∨ (Value.slice A' (n + m) c').ownBlock = some w.heap.size) → K (a.put o.dst (.slice A' (n + m) c')) w') : o.wp P a w K Q := by
  obtain ⟨A', c', w', hrun, h2, h3, h4⟩ := run_app (P := P) w base t o.type e i z bytes ht hi hz hsize hby hzs v n xs hown A m c news hl hr h1 h63 hbytes hbase
  unfold Oper.wp execOp
  simp only [ho, resolve, invoke, builtin, Sem.run_bind, Sem.run_pure, Result.andThen_ok, List.map_toArray, List.map_cons, List.map_nil, hs, hx, hrun]
  exact h A' c' w' h2 h3 h4

/-- 'append(v, xs...)', v the call's own row (or nil): the value comes written out. -/
theorem wpList_app {ops : Array Oper} {rest : List Oper} {o : Oper} {a : Act} {Q : Exit → Act → World → Prop} (hgd : o.guard = none) (s x : Operand) (t : TypeId)
    (ho : o.op = .call { callee := .builtin .append, args := #[s, x], argTypes := #[t, t] })
    (base : Nat) (e : TypeId) (z : Value) (bytes : Nat) (hinfo : (P.info? e).map (fun i => (i.zero, i.size, i.bytes)) = some (some z, 1, bytes)) (ht : P.underlying t = some (.slice e)) (hzs : z.cells.size = 1)
    (v : Value) (n : Nat) (xs : List Value) (hs : a.eval s = v) (hown : w.ownsRow base e 1 v n xs)
    (A : Option Addr) (m c : Nat) (news : List Value) (hx : a.eval x = .slice A m c) (hl : news.length = m) (hr : Rd w A news) (h1 : ∀ u ∈ news, u.oneCell' = true)
    (h63 : n + m ≤ maxLen) (hbytes : (n + m) * bytes ≤ 140737488355328) (hbase : base ≤ w.heap.size)
    (h : ∀ A' c' w', w'.ownsRow base e 1 (.slice A' (n + m) c') (n + m) (xs ++ news) → w.grownBy w' v.ownBlock →
      ((Value.slice A' (n + m) c').ownBlock = v.ownBlock ∨ (Value.slice A' (n + m) c').ownBlock = some w.heap.size) → wpList P ops Q rest (a.put o.dst (.slice A' (n + m) c')) w') : wpList P ops Q (o :: rest) a w := by
  obtain ⟨i, hi, hz, hsize, hby⟩ := info_parts hinfo
  exact wpList_plain hgd fun _ hK => wp_app w s x t ho base e i z bytes ht hi hz hsize hby hzs v n xs hs hown A m c news hx hl hr h1 h63 hbytes hbase fun A' c' w' h2 h3 h4 => hK _ _ (h A' c' w' h2 h3 h4)
end

/-- What a call hands back: a slice of its own, that reads so; nothing old has turned. -/
def RetS (E : TypeId) (w : World) (n : Nat) (xs : List Value) (e : Ending) (w' : World) : Prop :=
  ∃ A c, e = .returned (.slice A n c) ∧ w'.ownsRow w.heap.size E 1 (.slice A n c) n xs ∧ Below w.heap.size w w'

/-! ### Bytes, numbers -/
def bv (l : List UInt8) : List Value := l.map fun x => .int .u8 (x.toNat : Int)
@[simp] theorem bv_length (l : List UInt8) : (bv l).length = l.length := by simp [bv]
theorem bv_get {l : List UInt8} {k : Nat} (hk : k < l.length) : (bv l)[k]? = some (.int .u8 (l[k].toNat : Int)) := by simp [bv, hk]
theorem bv_append (l m : List UInt8) : bv (l ++ m) = bv l ++ bv m := by simp [bv]
theorem bv_one (l : List UInt8) : ∀ u ∈ bv l, u.oneCell' = true := by
  intro u hu; obtain ⟨_, _, rfl⟩ := List.mem_map.1 hu; rfl
theorem one_int (k : IntKind) (x : Int) : ∀ u ∈ [Value.int k x], u.oneCell' = true := by
  intro u hu; rw [List.mem_singleton.1 hu]; rfl
theorem bv_inj {l m : List UInt8} (h : bv l = bv m) : l = m := by
  unfold bv at h
  refine (List.map_inj_right ?_).1 h
  intro a b hab
  injection hab with _ h2
  exact UInt8.toNat_inj.1 (by exact_mod_cast h2)

/-! ### Quiet calls behind a quiet region -/
theorem quiet_add_left {P : Program} {f : FuncId} {args : Array Value} {w : World} {a n : Nat} {v : Value}
    (h : Calls P f args (w.drewN (a + n)) fun e w' => e = .returned v ∧ w.drewN (a + n) = w') :
    Calls P f args (w.drewN (a + n)) fun e w'' => e = .returned v ∧ ∃ m, w'' = w.drewN (a + m) :=
  h.mono fun _ _ ⟨he, hm⟩ => ⟨he, n, hm.symm⟩
theorem quiet_left {P : Program} {f : FuncId} {args : Array Value} {w : World} {n : Nat} {v : Value}
    (h : Calls P f args (w.drewN n) fun e w' => e = .returned v ∧ w.drewN n = w') : Calls P f args (w.drewN n) fun e w'' => e = .returned v ∧ ∃ m, w'' = w.drewN m :=
  h.mono fun _ _ ⟨he, hm⟩ => ⟨he, n, hm.symm⟩
theorem quiet_add {P : Program} {f : FuncId} {args : Array Value} {w : World} {a n : Nat} {v : Value}
    (h : Calls P f args (w.drewN (a + n)) fun e w' => e = .returned v ∧ ∃ m, w' = (w.drewN (a + n)).drewN m) :
    Calls P f args (w.drewN (a + n)) fun e w'' => e = .returned v ∧ ∃ m, w'' = w.drewN (a + m) :=
  h.mono fun _ _ ⟨he, m, hm⟩ => ⟨he, n + m, by rw [hm, World.drewN_drewN, Nat.add_assoc]⟩

theorem ret_int {k : IntKind} {a b : Int} (h : a = b) : Ending.returned (.int k a) = .returned (.int k b) := by rw [h]
theorem ret_bool {a b : Bool} (h : a = b) : Ending.returned (.bool a) = .returned (.bool b) := by rw [h]

end Go.Proofs.YtdldipkbknhhoaaDoor

/- prefix.Get returns what pget says, of whatever slice of bytes it is handed and bits from 1 to 8; it turns nothing. (At most 2 to the 47 bytes.) -/
namespace Go.Proofs.YtdldipkbknhhoaaDoor
open Go.RowKit

def pmost (b : Nat) : Int := 2 ^ b - 1
theorem pmost_bd (b : Nat) (h1 : 1 ≤ b) (h8 : b ≤ 8) : 2 ≤ (2 : Int) ^ b ∧ (2 : Int) ^ b ≤ 256 := by
  have : b = 1 ∨ b = 2 ∨ b = 3 ∨ b = 4 ∨ b = 5 ∨ b = 6 ∨ b = 7 ∨ b = 8 := by omega
  rcases this with rfl | rfl | rfl | rfl | rfl | rfl | rfl | rfl <;> decide
/-- The groups behind the first byte: how many more may come, which one is next, the number so far. -/
def ploop : Nat → Nat → Int → List UInt8 → Int × Int × Int
  | 0, _, _, _ => (0, 0, 4)
  | _ + 1, _, _, [] => (0, 0, 3)
  | f + 1, k, n, c :: r =>
    if 4611686018427387903 < n + (c.toNat : Int) % 128 * 2 ^ (7 * (k - 1)) then (0, 0, 4)
    else if c.toNat < 128 then (n + (c.toNat : Int) % 128 * 2 ^ (7 * (k - 1)), (k : Int) + 1, 0)
    else ploop f (k + 1) (n + (c.toNat : Int) % 128 * 2 ^ (7 * (k - 1))) r
def pget (b : Nat) (l : List UInt8) : Int × Int × Int :=
  match l with
  | [] => (0, 0, 3)
  | x :: r => if (x.toNat : Int) % 2 ^ b < pmost b then ((x.toNat : Int) % 2 ^ b, 1, 0) else ploop 9 1 ((x.toNat : Int) % 2 ^ b) r
def ptup (x : Int × Int × Int) : Value := .tuple #[.int .u64 x.1, .int .i64 x.2.1, .int .i64 x.2.2]

theorem and_most (x b : Nat) (hx : x < 256) (h8 : b ≤ 8) : bits .and .u64 (x : Int) ((2 : Int) ^ b - 1) = (x : Int) % 2 ^ b := by
  have hp : 1 ≤ 2 ^ b := Nat.one_le_two_pow
  have hp2 : 2 ^ b ≤ 2 ^ 8 := Nat.pow_le_pow_right (by omega) h8
  have e : (2 : Int) ^ b - 1 = ((2 ^ b - 1 : Nat) : Int) := by rw [Int.natCast_sub hp]; simp
  rw [e, u64_and_nat _ _ (by omega) (by omega), Nat.and_two_pow_sub_one_eq_mod]
  simp
theorem andnot128 (c : UInt8) : bits .andNot .u8 (c.toNat : Int) 128 = (c.toNat : Int) % 128 := by
  have hc := UInt8.toNat_lt c
  have e := u8_andNot_nat c.toNat 128 (by omega) (by omega)
  have e2 : c.toNat &&& 127 = c.toNat % 128 := Nat.and_two_pow_sub_one_eq_mod _ 7
  rw [show ((128 : Nat) : Int) = 128 from rfl] at e
  rw [e, show 255 - 128 = 127 from rfl, e2]; simp
theorem shift_bd (k : Nat) (hk : k < 10) : 1 ≤ (2 : Int) ^ (7 * (k - 1)) ∧ (2 : Int) ^ (7 * (k - 1)) ≤ 72057594037927936 := by
  have : k = 0 ∨ k = 1 ∨ k = 2 ∨ k = 3 ∨ k = 4 ∨ k = 5 ∨ k = 6 ∨ k = 7 ∨ k = 8 ∨ k = 9 := by omega
  rcases this with rfl | rfl | rfl | rfl | rfl | rfl | rfl | rfl | rfl | rfl <;> decide
theorem quot_lt (p S : Int) (hS : 1 ≤ S) : 4611686018427387903 / S < p ↔ 4611686018427387903 < p * S := by
  rw [Int.ediv_lt_iff_lt_mul (by omega)]
theorem quot_nn (S : Int) (hS : 1 ≤ S) : 0 ≤ 4611686018427387903 / S := Int.ediv_nonneg (by omega) (by omega)
theorem prod_bd (p S : Int) (h0 : 0 ≤ p) (h1 : p ≤ 127) (hS : 1 ≤ S) (hS2 : S ≤ 72057594037927936) : 0 ≤ p * S ∧ p * S ≤ 9151314442816847872 := by
  constructor
  · exact Int.mul_nonneg h0 (by omega)
  · have := Int.mul_le_mul h1 hS2 (by omega) (by omega)
    omega

set_option maxHeartbeats 400000 in
theorem pget_nil (b : Nat) (A : Option Addr) (c : Nat) (w : World) (hb1 : 1 ≤ b) (hb8 : b ≤ 8) :
    Calls Tryd.prog 71 #[.slice A 0 c, .int .i64 b] w fun e w' => e = .returned (ptup (0, 0, 3)) ∧ w = w' := by
  go_enter Tryd.func71, Tryd.ntmps71
  go_wp2
  go_ret3
  exact ⟨rfl, rfl⟩

set_option maxRecDepth 100000 in
set_option maxHeartbeats 1000000 in
theorem pget_cons (x : UInt8) (r : List UInt8) (b : Nat) (A : Option Addr) (c : Nat) (w : World) (hb1 : 1 ≤ b) (hb8 : b ≤ 8) (hr : Rd w A (bv (x :: r))) (hm : r.length + 1 ≤ 140737488355328) :
    Calls Tryd.prog 71 #[.slice A (r.length + 1) c, .int .i64 b] w fun e w' => e = .returned (ptup (pget b (x :: r))) ∧ w = w' := by
  obtain ⟨bl, off, rfl, hcell⟩ := hr (by simp)
  have h0 := hcell 0 _ (bv_get (k := 0) (by simp))
  simp only [List.getElem_cons_zero, Nat.add_zero] at h0
  have hx := UInt8.toNat_lt x
  have hP := pmost_bd b hb1 hb8
  have hand := and_most x.toNat b hx hb8
  have HG : pget b (x :: r) = if (x.toNat : Int) % 2 ^ b < 2 ^ b - 1 then ((x.toNat : Int) % 2 ^ b, 1, 0) else ploop 9 1 ((x.toNat : Int) % 2 ^ b) r := rfl
  have hz : ((r.length : Int) + 1 == 0) = false := by rw [beq_eq_false_iff_ne]; omega
  have hm0 : 0 ≤ (x.toNat : Int) % 2 ^ b ∧ (x.toNat : Int) % 2 ^ b ≤ 2 ^ b - 1 := by
    have := Int.emod_nonneg (x.toNat : Int) (show (2 : Int) ^ b ≠ 0 by omega)
    have := Int.emod_lt_of_pos (x.toNat : Int) (show (0 : Int) < 2 ^ b by omega)
    omega
  obtain ⟨P, hPe⟩ : ∃ P, (2 : Int) ^ b = P := ⟨_, rfl⟩
  rw [hPe] at hP hand HG hm0
  obtain ⟨m, hme⟩ : ∃ m, (x.toNat : Int) % P = m := ⟨_, rfl⟩
  rw [hme] at hm0 hand HG
  replace HG := Lib.hid HG
  clear hme
  by_cases hlt : m < P - 1
  · go_enter Tryd.func71, Tryd.ntmps71
    go_wp2_with fail
    go_ret3
    exact ⟨by rw [HG.out, if_pos hlt]; rfl, rfl⟩
  · obtain ⟨res, hres⟩ : ∃ res, ploop 9 1 m r = res := ⟨_, rfl⟩
    have HR : pget b (x :: r) = res := by rw [HG.out, if_neg hlt, hres]
    replace HR := Lib.hid HR
    have HRES := Lib.hid hres
    clear hres HG
    go_enter Tryd.func71, Tryd.ntmps71
    go_wp2_with fail
    go_loop [8, 9] (fun n i => ∃ (k : Nat) (N : Int), 1 ≤ k ∧ k ≤ 10 ∧ k ≤ r.length + 1 ∧ i = .int .i64 k ∧ n = .int .u64 N ∧ 0 ≤ N ∧ N ≤ 4611686018427387903 ∧ Hid (ploop (10 - k) k N (r.drop (k - 1)) = res)) (fun _ i => 10 - (intOf i).toNat)
    case atStart => exact ⟨1, m, by omega, by omega, by omega, rfl, rfl, by omega, by omega, HRES⟩
    case round =>
      obtain ⟨k, N, hk1, hk10, hkr, rfl, rfl, hN0, hN1, HL⟩ := hrel
      by_cases hk : k < 10
      · by_cases hkl : k = r.length + 1
        · have hz2 : ((k : Int) == (r.length : Int) + 1) = true := by rw [beq_iff_eq]; omega
          have HE : res = (0, 0, 3) := by
            rw [← HL.out, List.drop_of_length_le (by omega)]
            obtain ⟨f, hf⟩ : ∃ f, 10 - k = f + 1 := ⟨9 - k, by omega⟩
            rw [hf]; rfl
          replace HE := Lib.hid HE
          clear hkl
          go_wp2_with fail
          go_ret3
          exact ⟨by rw [HR.out, HE.out]; rfl, rfl⟩
        · have hz2 : ((k : Int) == (r.length : Int) + 1) = false := by rw [beq_eq_false_iff_ne]; omega
          have hg := hcell k _ (bv_get (l := x :: r) (by simp; omega))
          obtain ⟨cb, hcb⟩ : ∃ cb, (x :: r)[k]'(by simp; omega) = cb := ⟨_, rfl⟩
          rw [hcb] at hg
          have hdrop : r.drop (k - 1) = cb :: r.drop k := by
            rw [List.drop_eq_getElem_cons (by omega), ← hcb]
            obtain ⟨j, rfl⟩ : ∃ j, k = j + 1 := ⟨k - 1, by omega⟩
            rfl
          have hS := shift_bd k hk
          have ha := andnot128 cb
          have HSTEP : ploop (10 - k) k N (r.drop (k - 1)) = if 4611686018427387903 < N + (cb.toNat : Int) % 128 * 2 ^ (7 * (k - 1)) then (0, 0, 4) else if cb.toNat < 128 then (N + (cb.toNat : Int) % 128 * 2 ^ (7 * (k - 1)), (k : Int) + 1, 0) else ploop (10 - (k + 1)) (k + 1) (N + (cb.toNat : Int) % 128 * 2 ^ (7 * (k - 1))) (r.drop (k + 1 - 1)) := by
            obtain ⟨f, hf⟩ : ∃ f, 10 - k = f + 1 := ⟨9 - k, by omega⟩
            rw [hdrop, hf, show 10 - (k + 1) = f from by omega, Nat.add_sub_cancel]; rfl
          rw [HL.out] at HSTEP
          have hcl := UInt8.toNat_lt cb
          have hp : 0 ≤ (cb.toNat : Int) % 128 ∧ (cb.toNat : Int) % 128 ≤ 127 := by omega
          obtain ⟨S, hSe⟩ : ∃ S, (2 : Int) ^ (7 * (k - 1)) = S := ⟨_, rfl⟩
          obtain ⟨p, hpe⟩ : ∃ p, (cb.toNat : Int) % 128 = p := ⟨_, rfl⟩
          rw [hSe] at hS HSTEP
          rw [hpe] at ha HSTEP hp
          have hq1 := quot_lt p S hS.1
          have hq0 := quot_nn S hS.1
          have hT := prod_bd p S hp.1 hp.2 hS.1 hS.2
          obtain ⟨Q, hQe⟩ : ∃ Q, (4611686018427387903 : Int) / S = Q := ⟨_, rfl⟩
          obtain ⟨T, hTe⟩ : ∃ T, p * S = T := ⟨_, rfl⟩
          rw [hTe] at hT hq1 HSTEP
          rw [hQe] at hq0 hq1
          replace HSTEP := Lib.hid HSTEP
          clear hcb hdrop hpe
          by_cases hc1 : Q < p
          · have hT2 : 4611686018427387903 < T := hq1.1 hc1
            clear hq1
            go_wp2_with fail
            go_ret3
            exact ⟨by rw [HR.out, HSTEP.out, if_pos (by omega)]; rfl, rfl⟩
          · have hT2 : T ≤ 4611686018427387903 := by omega
            clear hq1
            by_cases hc2 : 4611686018427387903 < N + T
            · have hc2' : 4611686018427387903 - T < N := by omega
              go_wp2_with fail
              go_ret3
              exact ⟨by rw [HR.out, HSTEP.out, if_pos hc2]; rfl, rfl⟩
            · have hc2' : ¬ 4611686018427387903 - T < N := by omega
              by_cases hc3 : cb.toNat < 128
              · go_wp2_with fail
                go_ret3
                exact ⟨by rw [HR.out, HSTEP.out, if_neg (by omega), if_pos hc3]; rfl, rfl⟩
              · have HN : Hid (ploop (10 - (k + 1)) (k + 1) (N + T) (r.drop (k + 1 - 1)) = res) := by
                  have := HSTEP.out
                  rw [if_neg hc2, if_neg hc3] at this
                  exact Lib.hid this.symm
                go_wp2_with fail
                go_round
                case rel => exact ⟨k + 1, N + T, by omega, by omega, by omega, by go_num, rfl, by omega, by omega, HN⟩
                case measure => simp [intOf]; omega
      · have hk' : k = 10 := by omega
        subst hk'
        have HE : res = (0, 0, 4) := by rw [← HL.out]; rfl
        replace HE := Lib.hid HE
        go_wp2_with fail
        go_ret3
        exact ⟨by rw [HR.out, HE.out]; rfl, rfl⟩

theorem pget_any (l : List UInt8) (b : Nat) (A : Option Addr) (c : Nat) (w : World) (hb1 : 1 ≤ b) (hb8 : b ≤ 8) (hr : Rd w A (bv l)) (hm : l.length ≤ 140737488355328) :
    Calls Tryd.prog 71 #[.slice A l.length c, .int .i64 b] w fun e w' => e = .returned (ptup (pget b l)) ∧ w = w' := by
  match l, hr, hm with
  | [], _, _ => exact pget_nil b A c w hb1 hb8
  | x :: r, hr, hm => exact pget_cons x r b A c w hb1 hb8 hr hm
end Go.Proofs.YtdldipkbknhhoaaDoor

/- What a byte is in memory. -/
namespace Go.Proofs.YtdldipkbknhhoaaDoor
open Go.RowKit
theorem infoB : (Tryd.prog.info? 5).map (fun i => (i.zero, i.size, i.bytes)) = some (some (.int .u8 0), 1, 1) := by kernel_rfl
theorem bits_one : (Value.int .u8 0).cells.size = 1 := rfl
end Go.Proofs.YtdldipkbknhhoaaDoor

/- Copied hands back a new slice with the same bytes; nothing old turns. (At most 2 to the 47 bytes.) -/
namespace Go.Proofs.YtdldipkbknhhoaaDoor
open Go.RowKit


set_option maxHeartbeats 400000 in
theorem copied_any (l : List UInt8) (A : Option Addr) (c : Nat) (w : World) (hr : Rd w A (bv l)) (hl : l.length ≤ 140737488355328) :
    Calls Tryd.prog 17 #[.slice A l.length c] w (RetS 5 w l.length (bv l)) := by
  go_enter Tryd.func17, Tryd.ntmps17
  go_wp2_with (at_builtin; refine wpList_app _ rfl _ _ 23 rfl w.heap.size 5 (.int .u8 0) 1 infoB Tryd.underlying23 rfl (.slice none 0 0) 0 [] rfl (World.ownsRow_nil _ _ _ _) A l.length c (bv l) rfl (by simp) hr (bv_one l) (by unfold maxLen; omega) (by omega) (Nat.le_refl _) ?_; intro A' c' w' hown hgrow hat)
  go_wp2
  go_ret
  exact ⟨A', c', rfl, by simpa using hown, (Below.refl _ _).grown hgrow (Nat.le_refl _) (fun k hk => by simp [Value.ownBlock] at hk)⟩
end Go.Proofs.YtdldipkbknhhoaaDoor

/- prefix.put and prefix.Put lay each number of 64 bits behind a slice of bytes, in new memory, at bits from 1 to 8. (A slice of at most 2 to the 46 bytes.) -/
namespace Go.Proofs.YtdldipkbknhhoaaDoor
open Go.RowKit

def phead (f : Int) (b : Nat) : Int := f - f % 2 ^ b
def pcont : Nat → Int → List UInt8
  | 0, n => [UInt8.ofNat n.toNat]
  | f + 1, n => if n < 128 then [UInt8.ofNat n.toNat] else UInt8.ofNat (n.toNat % 128 + 128) :: pcont f (n / 128)
def pput (f : Int) (b : Nat) (n : Int) : List UInt8 :=
  if n < pmost b then [UInt8.ofNat (phead f b + n).toNat] else UInt8.ofNat (phead f b + pmost b).toNat :: pcont 9 (n - pmost b)

theorem phead_bd (f : Int) (b : Nat) (h0 : 0 ≤ f) (h1 : f ≤ 255) (hb1 : 1 ≤ b) (hb8 : b ≤ 8) : 0 ≤ phead f b ∧ phead f b + (2 ^ b - 1) ≤ 255 ∧ ∃ a : Nat, phead f b = ((2 ^ b * a : Nat) : Int) := by
  obtain ⟨F, rfl⟩ := Int.eq_ofNat_of_zero_le h0
  have hb : b = 1 ∨ b = 2 ∨ b = 3 ∨ b = 4 ∨ b = 5 ∨ b = 6 ∨ b = 7 ∨ b = 8 := by omega
  unfold phead
  rcases hb with rfl | rfl | rfl | rfl | rfl | rfl | rfl | rfl <;> simp only [Int.reducePow, Nat.reducePow] <;> refine ⟨by omega, by omega, ?_⟩
  · exact ⟨F / 2, by omega⟩
  · exact ⟨F / 4, by omega⟩
  · exact ⟨F / 8, by omega⟩
  · exact ⟨F / 16, by omega⟩
  · exact ⟨F / 32, by omega⟩
  · exact ⟨F / 64, by omega⟩
  · exact ⟨F / 128, by omega⟩
  · exact ⟨F / 256, by omega⟩
theorem andnot_most (f : Int) (b : Nat) (h0 : 0 ≤ f) (h1 : f ≤ 255) (hb1 : 1 ≤ b) (hb8 : b ≤ 8) : bits .andNot .u8 f ((2 : Int) ^ b - 1) = phead f b := by
  obtain ⟨F, rfl⟩ := Int.eq_ofNat_of_zero_le h0
  have hF : F < 256 := by omega
  have hb : b = 1 ∨ b = 2 ∨ b = 3 ∨ b = 4 ∨ b = 5 ∨ b = 6 ∨ b = 7 ∨ b = 8 := by omega
  have key : ∀ b : Fin 9, 1 ≤ b.val → ∀ x : Fin 256, ((x.val &&& (255 - (2 ^ b.val - 1)) : Nat) : Int) = phead x.val b.val := by decide +kernel
  have hp : 1 ≤ 2 ^ b := Nat.one_le_two_pow
  have hp2 : 2 ^ b ≤ 2 ^ 8 := Nat.pow_le_pow_right (by omega) hb8
  have e : (2 : Int) ^ b - 1 = ((2 ^ b - 1 : Nat) : Int) := by rw [Int.natCast_sub hp]; simp
  rw [e, u8_andNot_nat _ _ (by omega) (by omega)]
  exact key ⟨b, by omega⟩ hb1 ⟨F, hF⟩
theorem or_head (h n : Int) (b : Nat) (hb8 : b ≤ 8) (hn0 : 0 ≤ n) (hn : n < 2 ^ b) (hh : h + n ≤ 255) (ha : ∃ a : Nat, h = ((2 ^ b * a : Nat) : Int)) : bits .or .u8 h n = h + n := by
  obtain ⟨a, rfl⟩ := ha
  obtain ⟨N, rfl⟩ := Int.eq_ofNat_of_zero_le hn0
  have hN : N < 2 ^ b := by exact_mod_cast hn
  have e2 := Nat.two_pow_add_eq_or_of_lt hN a
  have hp2 : 2 ^ b ≤ 2 ^ 8 := Nat.pow_le_pow_right (by omega) hb8
  rw [u8_or_nat _ _ (by omega) (by omega), ← e2]
  omega
theorem or_more (n : Int) (h0 : 0 ≤ n) : bits .or .u8 (n % 256) 128 = n % 128 + 128 := by
  obtain ⟨N, rfl⟩ := Int.eq_ofNat_of_zero_le h0
  have key : ∀ x : Fin 256, x.val ||| 128 = x.val % 128 + 128 := by decide +kernel
  have e : (N : Int) % 256 = ((N % 256 : Nat) : Int) := by omega
  rw [e, show (128 : Int) = ((128 : Nat) : Int) from rfl, u8_or_nat _ _ (by omega) (by omega), key ⟨N % 256, by omega⟩]
  simp only
  omega
theorem ofNat_val (x : Int) (h0 : 0 ≤ x) (h : x ≤ 255) : ((UInt8.ofNat x.toNat).toNat : Int) = x := by
  rw [UInt8.toNat_ofNat', Nat.mod_eq_of_lt (by omega)]; omega
theorem bv_snoc (l : List UInt8) (x : Int) (h0 : 0 ≤ x) (h : x ≤ 255) : bv l ++ [.int .u8 x] = bv (l ++ [UInt8.ofNat x.toNat]) := by
  rw [bv_append]; simp only [bv, List.map_cons, List.map_nil, ofNat_val x h0 h]

/-- One byte more, in a round or ahead of it. -/
theorem put_one {E B : Nat} {w0 wr w' : World} {acc : List UInt8} {v : Value} {A' : Option Addr} {c' : Nat} {x : Int} {o : Obj} (h0 : 0 ≤ x) (h : x ≤ 255) (hF : Fr NoS w0 wr) (hB : w0.heap.size ≤ B)
    (hown : wr.ownsRow B E 1 v acc.length (bv acc))
    (hown' : w'.ownsRow B E 1 (.slice A' (acc.length + 1) c') (acc.length + 1) (bv acc ++ [.int .u8 x])) (hg : (wr.alloc o).grownBy w' v.ownBlock) :
    w'.ownsRow B E 1 (.slice A' (acc ++ [UInt8.ofNat x.toNat]).length c') (acc ++ [UInt8.ofNat x.toNat]).length (bv (acc ++ [UInt8.ofNat x.toNat])) ∧ Fr NoS w0 w' := by
  refine ⟨?_, (hF.alloc o).grown hg fun j hj hlt => by have := (hown.lt j hj).1; omega⟩
  rw [List.length_append, ← bv_snoc acc x h0 h]; exact hown'

theorem pcont_last (f : Nat) (n : Int) (h : n < 128) : pcont f n = [UInt8.ofNat n.toNat] := by
  cases f with
  | zero => rfl
  | succ f => simp only [pcont]; rw [if_pos h]
theorem pcont_more (f : Nat) (n : Int) (h0 : 0 ≤ n) (h : ¬ n < 128) : pcont (f + 1) n = UInt8.ofNat (n % 128 + 128).toNat :: pcont f (n / 128) := by
  simp only [pcont]
  rw [if_neg h]
  have e : (n % 128 + 128).toNat = n.toNat % 128 + 128 := by omega
  rw [e]

set_option maxRecDepth 100000 in
set_option maxHeartbeats 2000000 in
theorem pputs_any (l : List UInt8) (f : Int) (b : Nat) (n : Int) (A : Option Addr) (c : Nat) (w : World) (hr : Rd w A (bv l)) (hl : l.length ≤ 70368744177664) (hf0 : 0 ≤ f) (hf1 : f ≤ 255) (hb1 : 1 ≤ b) (hb8 : b ≤ 8) (hn0 : 0 ≤ n) (hn1 : n ≤ 18446744073709551615) :
    Calls Tryd.prog 73 #[.slice A l.length c, .int .u8 f, .int .i64 b, .int .u64 n] w (RetS 5 w (l ++ pput f b n).length (bv (l ++ pput f b n))) := by
  have hP := pmost_bd b hb1 hb8
  obtain ⟨hd0, hd1, hda⟩ := phead_bd f b hf0 hf1 hb1 hb8
  have hand := andnot_most f b hf0 hf1 hb1 hb8
  have HP : pput f b n = if n < 2 ^ b - 1 then [UInt8.ofNat (phead f b + n).toNat] else UInt8.ofNat (phead f b + (2 ^ b - 1)).toNat :: pcont 9 (n - (2 ^ b - 1)) := rfl
  have HOR := Lib.hid (fun x (h0 : 0 ≤ x) (h : x < 2 ^ b) (h2 : phead f b + x ≤ 255) => or_head (phead f b) x b hb8 h0 h h2 hda)
  clear hda
  obtain ⟨P, hPe⟩ : ∃ P, (2 : Int) ^ b = P := ⟨_, rfl⟩
  rw [hPe] at hP hand HP HOR hd1
  obtain ⟨hd, hde⟩ : ∃ h, phead f b = h := ⟨_, rfl⟩
  rw [hde] at hand HP HOR hd0 hd1
  obtain ⟨out, houte⟩ : ∃ o, pput f b n = o := ⟨_, rfl⟩
  rw [houte] at HP ⊢
  replace HP := Lib.hid HP
  clear hde houte
  by_cases hlt : n < P - 1
  · have hor := HOR.out n hn0 (by omega) (by omega)
    go_enter Tryd.func73, Tryd.ntmps73
    go_wp2_with (at_builtin; refine Hid.out ?_)
    refine Lib.hid ?_
    refine wpList_app _ rfl _ _ 23 (by rfl) w.heap.size 5 (.int .u8 0) 1 infoB Tryd.underlying23 rfl (.slice none 0 0) 0 [] (by rfl) (World.ownsRow_nil _ _ _ _) A l.length c (bv l) (by rfl) (by simp) hr (bv_one l) (by unfold maxLen; omega) (by omega) (Nat.le_refl _) ?_
    intro A1 c1 w1 hown hgrow _
    have F := (Fr.refl NoS w).grown hgrow (fun k hk => by simp [Value.ownBlock] at hk)
    simp only [Nat.zero_add, List.nil_append] at hown
    clear hgrow
    go_wp2_with (at_builtin; refine Hid.out ?_)
    refine Lib.hid ?_
    refine wpList_app _ rfl _ _ 23 (by rfl) w.heap.size 5 (.int .u8 0) 1 infoB Tryd.underlying23 rfl (.slice A1 l.length c1) l.length (bv l) (by rfl) (hown.alloc _) (some ⟨w1.heap.size, 0, none⟩) 1 1 [.int .u8 (hd + n)] (by rfl) rfl (Rd.freshAt (by simp) _ _ rfl) (one_int _ _) (by unfold maxLen; omega) (by omega) (by have := F.size; simp; omega) ?_
    intro A2 c2 w2 hown2 hgrow2 _
    have R := put_one (x := hd + n) (by omega) (by omega) F (Nat.le_refl _) hown hown2 hgrow2
    go_wp2
    go_ret
    rw [HP.out, if_pos hlt]
    exact ⟨A2, c2, by rw [List.length_append]; rfl, R.1, Fr.below R.2⟩
  · have hor := HOR.out (P - 1) (by omega) (by omega) (by omega)
    go_enter Tryd.func73, Tryd.ntmps73
    go_wp2_with (at_builtin; refine Hid.out ?_)
    refine Lib.hid ?_
    refine wpList_app _ rfl _ _ 23 (by rfl) w.heap.size 5 (.int .u8 0) 1 infoB Tryd.underlying23 rfl (.slice none 0 0) 0 [] (by rfl) (World.ownsRow_nil _ _ _ _) A l.length c (bv l) (by rfl) (by simp) hr (bv_one l) (by unfold maxLen; omega) (by omega) (Nat.le_refl _) ?_
    intro A1 c1 w1 hown hgrow _
    have F := (Fr.refl NoS w).grown hgrow (fun k hk => by simp [Value.ownBlock] at hk)
    simp only [Nat.zero_add, List.nil_append] at hown
    clear hgrow
    go_wp2_with (at_builtin; refine Hid.out ?_)
    refine Lib.hid ?_
    refine wpList_app _ rfl _ _ 23 (by rfl) w.heap.size 5 (.int .u8 0) 1 infoB Tryd.underlying23 rfl (.slice A1 l.length c1) l.length (bv l) (by rfl) (hown.alloc _) (some ⟨w1.heap.size, 0, none⟩) 1 1 [.int .u8 (hd + (P - 1))] (by rfl) rfl (Rd.freshAt (by simp) _ _ rfl) (one_int _ _) (by unfold maxLen; omega) (by omega) (by have := F.size; simp; omega) ?_
    intro A2 c2 w2 hown2 hgrow2 _
    have R := put_one (x := hd + (P - 1)) (by omega) (by omega) F (Nat.le_refl _) hown hown2 hgrow2
    have HT : (l ++ [UInt8.ofNat (hd + (P - 1)).toNat]) ++ pcont 9 (n - (P - 1)) = l ++ out := by rw [HP.out, if_neg (by omega)]; simp
    have hl2 : (l ++ [UInt8.ofNat (hd + (P - 1)).toNat]).length = l.length + 1 := by simp
    rw [← hl2]
    generalize l ++ [UInt8.ofNat (hd + (P - 1)).toNat] = acc at R HT hl2 ⊢
    replace HT := Lib.hid HT
    clear hown hown2 hgrow2 F hor HP
    go_wp2_with fail
    go_loopw [9, 3] (fun v i wr => ∃ (g : Nat) (N : Int) (acc : List UInt8) (A' : Option Addr) (c' : Nat), g ≤ 9 ∧ acc.length + g ≤ l.length + 10 ∧ i = .int .u64 N ∧ 0 ≤ N ∧ N < 128 ^ (g + 1) ∧ v = .slice A' acc.length c' ∧ Hid (acc ++ pcont g N = l ++ out) ∧ wr.ownsRow w.heap.size 5 1 (.slice A' acc.length c') acc.length (bv acc) ∧ Fr NoS w wr) (fun _ i _ => (intOf i).toNat)
    case atStart => exact ⟨9, n - (P - 1), acc, A2, c2, by omega, by omega, rfl, by omega, by simp only [Int.reducePow, Nat.reduceAdd]; omega, by rw [hl2], HT, R.1, R.2⟩
    case round =>
      clear R HT hl2
      obtain ⟨g, N, acc, A3, c3, hg, hal, rfl, hN0, hN1, rfl, HT, hown, F⟩ := hrel
      by_cases hN : N < 128
      · have e128 : N % 256 = N := by omega
        go_wp2_with (at_builtin; refine Hid.out ?_)
        refine Lib.hid ?_
        refine wpList_app _ rfl _ _ 23 (by rfl) w.heap.size 5 (.int .u8 0) 1 infoB Tryd.underlying23 rfl (.slice A3 acc.length c3) acc.length (bv acc) (by rfl) (hown.alloc _) (some ⟨wr.heap.size, 0, none⟩) 1 1 [.int .u8 N] (by rfl) rfl (Rd.freshAt (by simp) _ _ rfl) (one_int _ _) (by unfold maxLen; omega) (by omega) (by have := F.size; simp; omega) ?_
        intro A4 c4 w4 hown4 hgrow4 _
        have R := put_one (x := N) (by omega) (by omega) F (Nat.le_refl _) hown hown4 hgrow4
        go_wp2
        go_ret
        rw [← HT.out, pcont_last g N hN]
        exact ⟨A4, c4, by rw [List.length_append]; rfl, R.1, Fr.below R.2⟩
      · obtain ⟨j, rfl⟩ : ∃ j, g = j + 1 := ⟨g - 1, by
          cases g with
          | zero => simp at hN1; omega
          | succ g => omega⟩
        have hor2 := or_more N hN0
        have HS : Hid ((acc ++ [UInt8.ofNat (N % 128 + 128).toNat]) ++ pcont j (N / 128) = l ++ out) := by
          have := HT.out
          rw [pcont_more j N hN0 hN] at this
          exact Lib.hid (by rw [← this]; simp)
        have hN2 : N / 128 < 128 ^ (j + 1) := by
          rw [Int.pow_succ] at hN1; exact Int.ediv_lt_of_lt_mul (by omega) hN1
        have HN2 := Lib.hid hN2
        clear hN2 hN1
        go_wp2_with (at_builtin; refine Hid.out ?_)
        refine Lib.hid ?_
        refine wpList_app _ rfl _ _ 23 (by rfl) w.heap.size 5 (.int .u8 0) 1 infoB Tryd.underlying23 rfl (.slice A3 acc.length c3) acc.length (bv acc) (by rfl) (hown.alloc _) (some ⟨wr.heap.size, 0, none⟩) 1 1 [.int .u8 (N % 128 + 128)] (by rfl) rfl (Rd.freshAt (by simp) _ _ rfl) (one_int _ _) (by unfold maxLen; omega) (by omega) (by have := F.size; simp; omega) ?_
        intro A4 c4 w4 hown4 hgrow4 _
        have R := put_one (x := N % 128 + 128) (by omega) (by omega) F (Nat.le_refl _) hown hown4 hgrow4
        clear hown hown4 hgrow4 F hor2
        go_wp2
        go_roundw
        case rel => exact ⟨j, N / 128, _, A4, c4, by omega, by simp; omega, rfl, by omega, HN2.out, by rw [List.length_append]; rfl, HS, R.1, R.2⟩
        case measure => simp [intOf]; omega
end Go.Proofs.YtdldipkbknhhoaaDoor

/- Plain laws of numbers and texts behind bits: what is laid is read as it was, whatever stands behind; cut anywhere it is too short. -/
namespace Go.Proofs.YtdldipkbknhhoaaDoor
open Go.RowKit

theorem byte_val (n : Int) (h0 : 0 ≤ n) (h : n ≤ 255) : ((UInt8.ofNat n.toNat).toNat : Int) = n := ofNat_val n h0 h
theorem shift_succ (k : Nat) (hk : 1 ≤ k) : (2 : Int) ^ (7 * (k + 1 - 1)) = 2 ^ (7 * (k - 1)) * 128 := by
  rw [show 7 * (k + 1 - 1) = 7 * (k - 1) + 7 from by omega, Int.pow_add]; rfl
theorem mul_split (m S : Int) : m % 128 * S + m / 128 * (S * 128) = m * S := by
  have h := Int.emod_add_mul_ediv m 128
  have e : m / 128 * (S * 128) = 128 * (m / 128) * S := by
    rw [Int.mul_comm S 128, ← Int.mul_assoc, Int.mul_comm (m / 128) 128]
  rw [e, ← Int.add_mul]; rw [h]
theorem ploop_cont (g : Nat) : ∀ (f k : Nat) (N m : Int) (t : List UInt8), f + k = 10 → 1 ≤ k → k ≤ 9 → 0 ≤ N → 0 ≤ m → m < 128 ^ (g + 1) → N + m * 2 ^ (7 * (k - 1)) ≤ 4611686018427387903 →
    ploop f k N (pcont g m ++ t) = (N + m * 2 ^ (7 * (k - 1)), (k : Int) + (pcont g m).length, 0) := by
  induction g with
  | zero =>
    intro f k N m t hf hk1 hk9 hN hm hmg hb
    obtain ⟨f, rfl⟩ : ∃ j, f = j + 1 := ⟨f - 1, by omega⟩
    have hm1 : m < 128 := by simpa using hmg
    have hv := byte_val m hm (by omega)
    simp only [pcont, List.cons_append, List.nil_append, ploop, hv]
    rw [Int.emod_eq_of_lt hm hm1, if_neg (by omega), if_pos (by omega)]
    simp
  | succ g ih =>
    intro f k N m t hf hk1 hk9 hN hm hmg hb
    obtain ⟨f, rfl⟩ : ∃ j, f = j + 1 := ⟨f - 1, by omega⟩
    by_cases hm1 : m < 128
    · have hv := byte_val m hm (by omega)
      rw [pcont_last _ m hm1]
      simp only [List.cons_append, List.nil_append, ploop, hv]
      rw [Int.emod_eq_of_lt hm hm1, if_neg (by omega), if_pos (by omega)]
      simp
    · rw [pcont_more g m hm hm1]
      have hv := byte_val (m % 128 + 128) (by omega) (by omega)
      have hS := shift_bd k (by omega)
      have hs := mul_split m (2 ^ (7 * (k - 1)))
      have hq : 0 ≤ m / 128 * (2 ^ (7 * (k - 1)) * 128) := Int.mul_nonneg (by omega) (by omega)
      have hq2 : 0 ≤ m % 128 * 2 ^ (7 * (k - 1)) := Int.mul_nonneg (by omega) (by omega)
      have h9 : k ≠ 9 := by
        rintro rfl
        simp only [Nat.reduceSub, Nat.reduceMul, Int.reducePow] at hb
        omega
      simp only [List.cons_append, ploop, hv]
      rw [show (m % 128 + 128) % 128 = m % 128 from by omega, if_neg (by omega), if_neg (by omega)]
      have := ih f (k + 1) (N + m % 128 * 2 ^ (7 * (k - 1))) (m / 128) t (by omega) (by omega) (by omega) (by omega) (by omega)
        (by rw [Int.pow_succ] at hmg; exact Int.ediv_lt_of_lt_mul (by omega) hmg) (by rw [shift_succ k hk1]; omega)
      rw [this, shift_succ k hk1]
      simp only [List.length_cons, Prod.mk.injEq]
      refine ⟨by omega, by omega, trivial⟩
theorem ploop_cut (g : Nat) : ∀ (f k : Nat) (N m : Int) (j : Nat), f + k = 10 → 1 ≤ k → k ≤ 9 → 0 ≤ N → 0 ≤ m → m < 128 ^ (g + 1) → N + m * 2 ^ (7 * (k - 1)) ≤ 4611686018427387903 → j < (pcont g m).length →
    ploop f k N ((pcont g m).take j) = (0, 0, 3) := by
  induction g with
  | zero =>
    intro f k N m j hf hk1 hk9 hN hm hmg hb hj
    obtain ⟨f, rfl⟩ : ∃ j, f = j + 1 := ⟨f - 1, by omega⟩
    have : j = 0 := by simp [pcont] at hj; omega
    subst this; rfl
  | succ g ih =>
    intro f k N m j hf hk1 hk9 hN hm hmg hb hj
    obtain ⟨f, rfl⟩ : ∃ j, f = j + 1 := ⟨f - 1, by omega⟩
    by_cases hm1 : m < 128
    · rw [pcont_last _ m hm1] at hj ⊢
      have : j = 0 := by simp at hj; omega
      subst this; rfl
    · rw [pcont_more g m hm hm1] at hj ⊢
      match j, hj with
      | 0, _ => rfl
      | j + 1, hj =>
        have hv := byte_val (m % 128 + 128) (by omega) (by omega)
        have hS := shift_bd k (by omega)
        have hs := mul_split m (2 ^ (7 * (k - 1)))
        have hq : 0 ≤ m / 128 * (2 ^ (7 * (k - 1)) * 128) := Int.mul_nonneg (by omega) (by omega)
        have hq2 : 0 ≤ m % 128 * 2 ^ (7 * (k - 1)) := Int.mul_nonneg (by omega) (by omega)
        have h9 : k ≠ 9 := by
          rintro rfl
          simp only [Nat.reduceSub, Nat.reduceMul, Int.reducePow] at hb
          omega
        simp only [List.take_succ_cons, ploop, hv]
        rw [show (m % 128 + 128) % 128 = m % 128 from by omega, if_neg (by omega), if_neg (by omega)]
        exact ih f (k + 1) (N + m % 128 * 2 ^ (7 * (k - 1))) (m / 128) j (by omega) (by omega) (by omega) (by omega) (by omega)
          (by rw [Int.pow_succ] at hmg; exact Int.ediv_lt_of_lt_mul (by omega) hmg) (by rw [shift_succ k hk1]; omega) (by simpa using hj)

theorem head_mod (f : Int) (b : Nat) (x : Int) (h0 : 0 ≤ f) (h1 : f ≤ 255) (hb1 : 1 ≤ b) (hb8 : b ≤ 8) (hx0 : 0 ≤ x) (hx : x ≤ 2 ^ b - 1) :
    ((UInt8.ofNat (phead f b + x).toNat).toNat : Int) = phead f b + x ∧ (phead f b + x) % 2 ^ b = x := by
  obtain ⟨hd0, hd1, a, ha⟩ := phead_bd f b h0 h1 hb1 hb8
  have hP := pmost_bd b hb1 hb8
  refine ⟨byte_val _ (by omega) (by omega), ?_⟩
  rw [ha, Int.natCast_mul, Int.natCast_pow]
  have : ((2 : Nat) : Int) ^ b = 2 ^ b := rfl
  rw [this, Int.mul_add_emod_self_left]
  exact Int.emod_eq_of_lt hx0 (by omega)
theorem pget_pput (f : Int) (b : Nat) (n : Int) (t : List UInt8) (h0 : 0 ≤ f) (h1 : f ≤ 255) (hb1 : 1 ≤ b) (hb8 : b ≤ 8) (hn0 : 0 ≤ n) (hn : n ≤ 4611686018427387903) :
    pget b (pput f b n ++ t) = (n, ((pput f b n).length : Int), 0) := by
  have hP := pmost_bd b hb1 hb8
  unfold pput
  by_cases hlt : n < pmost b
  · rw [if_pos hlt]
    unfold pmost at hlt
    obtain ⟨e1, e2⟩ := head_mod f b n h0 h1 hb1 hb8 hn0 (by omega)
    simp only [List.cons_append, List.nil_append, pget, e1, e2]
    rw [if_pos (by unfold pmost; omega)]; rfl
  · rw [if_neg hlt]
    unfold pmost at hlt ⊢
    obtain ⟨e1, e2⟩ := head_mod f b (2 ^ b - 1) h0 h1 hb1 hb8 (by omega) (by omega)
    simp only [List.cons_append, pget, e1, e2]
    rw [if_neg (by unfold pmost; omega)]
    have := ploop_cont 9 9 1 (2 ^ b - 1) (n - (2 ^ b - 1)) t rfl (by omega) (by omega) (by omega) (by omega) (by simp only [Int.reducePow, Nat.reduceAdd]; omega)
      (by simp only [Nat.sub_self, Nat.mul_zero, Int.pow_zero]; omega)
    rw [this]
    simp only [Nat.sub_self, Nat.mul_zero, Int.pow_zero, List.length_cons, Prod.mk.injEq]
    refine ⟨by omega, by omega, trivial⟩
theorem pget_cut (f : Int) (b : Nat) (n : Int) (j : Nat) (h0 : 0 ≤ f) (h1 : f ≤ 255) (hb1 : 1 ≤ b) (hb8 : b ≤ 8) (hn0 : 0 ≤ n) (hn : n ≤ 4611686018427387903) (hj : j < (pput f b n).length) :
    pget b ((pput f b n).take j) = (0, 0, 3) := by
  have hP := pmost_bd b hb1 hb8
  unfold pput at hj ⊢
  by_cases hlt : n < pmost b
  · rw [if_pos hlt] at hj ⊢
    have : j = 0 := by simp at hj; omega
    subst this; rfl
  · rw [if_neg hlt] at hj ⊢
    unfold pmost at hlt hj ⊢
    match j, hj with
    | 0, _ => rfl
    | j + 1, hj =>
      obtain ⟨e1, e2⟩ := head_mod f b (2 ^ b - 1) h0 h1 hb1 hb8 (by omega) (by omega)
      simp only [List.take_succ_cons, pget, e1, e2]
      rw [if_neg (by unfold pmost; omega)]
      exact ploop_cut 9 9 1 (2 ^ b - 1) (n - (2 ^ b - 1)) j rfl (by omega) (by omega) (by omega) (by omega) (by simp only [Int.reducePow, Nat.reduceAdd]; omega)
        (by simp only [Nat.sub_self, Nat.mul_zero, Int.pow_zero]; omega) (by simpa using hj)
theorem pput_pos (f : Int) (b : Nat) (n : Int) : 1 ≤ (pput f b n).length := by
  unfold pput; split <;> simp
theorem pcont_len (g : Nat) : ∀ n, (pcont g n).length ≤ g + 1 := by
  induction g with
  | zero => intro n; simp [pcont]
  | succ g ih => intro n; simp only [pcont]; split <;> simp <;> (try have := ih (n / 128)) <;> omega
theorem pput_len (f : Int) (b : Nat) (n : Int) : (pput f b n).length ≤ 11 := by
  unfold pput; have := pcont_len 9 (n - pmost b); split <;> simp; omega
end Go.Proofs.YtdldipkbknhhoaaDoor

/- Strings: append of a string's bytes onto a row of the call's own; string(b) of a slice that reads as a list. Nothing of the program. -/
namespace Go.Proofs.YtdldipkbknhhoaaDoor
open Go.RowKit

theorem strCells_bv (s : ByteArray) : Lib.strCells s = bv s.data.toList := rfl
theorem data_length (s : ByteArray) : s.data.toList.length = s.size := by rw [Array.length_toList]; rfl

/-- 'append(v, s...)', v the call's own row of bytes, s a string: the value comes written out. -/
theorem wpList_apps {P : Program} (w : World) {ops : Array Oper} {rest : List Oper} {o : Oper} {a : Act} {Q : Exit → Act → World → Prop} (hgd : o.guard = none) (sl x : Operand) (t u : TypeId)
    (ho : o.op = .call { callee := .builtin .append, args := #[sl, x], argTypes := #[t, u] })
    (base : Nat) (e : TypeId) (hinfo : (P.info? e).map (fun i => (i.zero, i.size, i.bytes)) = some (some (.int .u8 0), 1, 1)) (ht : P.underlying t = some (.slice e)) (hu : P.underlying u = some .string)
    (v : Value) (n : Nat) (xs : List Value) (hs : a.eval sl = v) (hown : w.ownsRow base e 1 v n xs) (s : ByteArray) (hx : a.eval x = .string s)
    (hbytes : n + s.size ≤ 140737488355328) (hbase : base ≤ w.heap.size)
    (h : ∀ A' c' w', w'.ownsRow base e 1 (.slice A' (n + s.size) c') (n + s.size) (xs ++ bv s.data.toList) → w.grownBy w' v.ownBlock → wpList P ops Q rest (a.put o.dst (.slice A' (n + s.size) c')) w') : wpList P ops Q (o :: rest) a w := by
  obtain ⟨i, hi, hz, hsize, hby⟩ := info_parts hinfo
  refine Lib.wpList_append_own_string w hgd sl x t u ho base e i ht hu hi hz hsize hby v n xs hs hown s hx (by unfold maxLen; omega) hbytes hbase ?_
  intro v' w' h1 h2 _
  obtain ⟨A', c', hv, _⟩ := own_shape w' h1
  subst hv
  exact h A' c' w' h1 h2

/-- 'string(b)': the bytes that the slice reads as. -/
theorem run_conv_bytes {P : Program} {w : World} {src dst e : TypeId} (hs : P.underlying src = some (.slice e)) (he : P.underlying e = some (.int .u8)) (hd : P.underlying dst = some .string)
    {l : List UInt8} {A : Option Addr} {c : Nat} (hr : Rd w A (bv l)) : (convert src dst (.slice A l.length c)).run P w = .ok (.string ⟨l.toArray⟩) w := by
  by_cases hn : l = []
  · subst hn
    rw [run_convert_bytes_string w src dst e _ _ c hs he hd]
    cases A with
    | none => simp [Conv.bytesToString]; rfl
    | some a =>
      have := run_bytesToString (P := P) w a 0 c [] (by simp [loadCells, loadCellsFrom])
      rw [List.length_nil, this]; rfl
  · obtain ⟨b, off, rfl, hc⟩ := hr (by simp; exact List.length_pos_iff.2 hn)
    have := run_convert_bytes_arg (P := P) w src e hs he b off l.length c (l.map fun x => (x.toNat : Int)) (by simp) (fun i hi => by
      rw [hc i _ (bv_get hi)]; simp [List.getD, hi]) dst hd
    rw [this]
    have e : (l.map fun x => (x.toNat : Int)).map (fun n => UInt8.ofNat n.toNat) = l := by
      rw [List.map_map]
      conv => rhs; rw [← List.map_id l]
      exact List.map_congr_left fun x _ => by simp
    rw [strOfNums, e]
theorem bv_take (l : List UInt8) (k : Nat) : bv (l.take k) = (bv l).take k := by simp [bv, List.map_take]
theorem bv_drop (l : List UInt8) (k : Nat) : bv (l.drop k) = (bv l).drop k := by simp [bv, List.map_drop]
theorem RetS.cap {E : TypeId} {w : World} {n : Nat} {xs : List Value} {A : Option Addr} {c : Nat} {B : Nat} (h : w.ownsRow B E 1 (.slice A n c) n xs) : n ≤ c ∧ c ≤ 9223372036854775807 := by
  obtain ⟨A', c', e1, e2⟩ := own_shape w h
  injection e1 with _ _ e3; subst e3; simpa [maxLen] using e2
end Go.Proofs.YtdldipkbknhhoaaDoor

/- prefix.Put, PutText and GetText: contracts at bits from 1 to 8 (texts: 7), numbers up to MaxVar. -/
namespace Go.Proofs.YtdldipkbknhhoaaDoor
open Go.RowKit

set_option maxHeartbeats 400000 in
theorem pput_any (l : List UInt8) (f : Int) (b : Nat) (n : Int) (A : Option Addr) (c : Nat) (w : World) (hr : Rd w A (bv l)) (hl : l.length ≤ 70368744177664) (hf0 : 0 ≤ f) (hf1 : f ≤ 255) (hb1 : 1 ≤ b) (hb8 : b ≤ 8) (hn0 : 0 ≤ n) (hn1 : n ≤ 4611686018427387903) :
    Calls Tryd.prog 66 #[.slice A l.length c, .int .u8 f, .int .i64 b, .int .u64 n] w (RetS 5 w (l ++ pput f b n).length (bv (l ++ pput f b n))) := by
  have C := Lib.hid (pputs_any l f b n A c w hr hl hf0 hf1 hb1 hb8 hn0 (by omega))
  obtain ⟨out, he⟩ : ∃ o, l ++ pput f b n = o := ⟨_, rfl⟩
  rw [he] at C ⊢
  clear he
  go_enter Tryd.func66, Tryd.ntmps66
  go_wp2_with fail
  refine C.out.mono ?_
  rintro e w' ⟨A', c', rfl, hown, hbel⟩
  go_wp2_with fail
  go_ret
  exact ⟨A', c', rfl, hown, hbel⟩

/-- The first byte of a text: the bit above those of its length is none. -/
def pclr (f : Int) (b : Nat) : Int := f - f / 2 ^ b % 2 * 2 ^ b
theorem pclr_bd (f : Int) (b : Nat) (h0 : 0 ≤ f) (h1 : f ≤ 255) (hb1 : 1 ≤ b) (hb7 : b ≤ 7) : 0 ≤ pclr f b ∧ pclr f b ≤ 255 := by
  have hb : b = 1 ∨ b = 2 ∨ b = 3 ∨ b = 4 ∨ b = 5 ∨ b = 6 ∨ b = 7 := by omega
  unfold pclr
  rcases hb with rfl | rfl | rfl | rfl | rfl | rfl | rfl <;> simp only [Int.reducePow] <;> omega
theorem andnot_clr (f : Int) (b : Nat) (h0 : 0 ≤ f) (h1 : f ≤ 255) (hb1 : 1 ≤ b) (hb7 : b ≤ 7) : bits .andNot .u8 f ((2 : Int) ^ b) = pclr f b := by
  obtain ⟨F, rfl⟩ := Int.eq_ofNat_of_zero_le h0
  have key : ∀ b : Fin 8, 1 ≤ b.val → ∀ x : Fin 256, ((x.val &&& (255 - 2 ^ b.val) : Nat) : Int) = pclr x.val b.val := by decide +kernel
  have hp2 : 2 ^ b ≤ 2 ^ 7 := Nat.pow_le_pow_right (by omega) hb7
  have e : (2 : Int) ^ b = ((2 ^ b : Nat) : Int) := by simp
  rw [e, u8_andNot_nat _ _ (by omega) (by omega)]
  exact key ⟨b, by omega⟩ hb1 ⟨F, by omega⟩

def ptext (f : Int) (b : Nat) (s : List UInt8) : List UInt8 := pput (pclr f b) b s.length ++ s

set_option maxRecDepth 100000 in
set_option maxHeartbeats 400000 in
theorem ptext_any (l : List UInt8) (f : Int) (b : Nat) (s : ByteArray) (A : Option Addr) (c : Nat) (w : World) (hr : Rd w A (bv l)) (hl : l.length ≤ 35184372088832) (hf0 : 0 ≤ f) (hf1 : f ≤ 255) (hb1 : 1 ≤ b) (hb7 : b ≤ 7) (hs : s.size ≤ 35184372088832) :
    Calls Tryd.prog 67 #[.slice A l.length c, .int .u8 f, .int .i64 b, .string s] w (RetS 5 w (l ++ ptext f b s.data.toList).length (bv (l ++ ptext f b s.data.toList))) := by
  have hP := pmost_bd b hb1 (by omega)
  have hcl := pclr_bd f b hf0 hf1 hb1 hb7
  have hand := andnot_clr f b hf0 hf1 hb1 hb7
  have hlen : s.data.toList.length = s.size := by rw [Array.length_toList]; rfl
  have HT : l ++ ptext f b s.data.toList = (l ++ pput (pclr f b) b s.size) ++ s.data.toList := by unfold ptext; rw [hlen]; simp
  rw [HT]
  have C := Lib.hid (fun W h => pputs_any l (pclr f b) b s.size A c W h (by omega) hcl.1 hcl.2 hb1 (by omega) (by omega) (by omega))
  have hol : (pput (pclr f b) b s.size).length ≤ 11 := pput_len _ _ _
  have hpl : (l ++ pput (pclr f b) b s.size).length ≤ 35184372088832 + 11 := by rw [List.length_append]; omega
  obtain ⟨g, hg⟩ : ∃ g, pclr f b = g := ⟨_, rfl⟩
  rw [hg] at hand hcl hpl C ⊢
  obtain ⟨out, he⟩ : ∃ o, l ++ pput g b s.size = o := ⟨_, rfl⟩
  rw [he] at C hpl ⊢
  obtain ⟨P, hPe⟩ : ∃ P, (2 : Int) ^ b = P := ⟨_, rfl⟩
  rw [hPe] at hP hand
  have hPb : P ≤ 128 := by
    rw [← hPe]
    have : b = 1 ∨ b = 2 ∨ b = 3 ∨ b = 4 ∨ b = 5 ∨ b = 6 ∨ b = 7 := by omega
    rcases this with rfl | rfl | rfl | rfl | rfl | rfl | rfl <;> decide
  have HL := Lib.hid hlen
  clear hg he HT hol hlen
  go_enter Tryd.func67, Tryd.ntmps67
  go_wp2_with fail
  refine (C.out _ hr).mono ?_
  rintro e w1 ⟨A1, c1, rfl, hown, hbel⟩
  have hsz := hbel.size
  go_wp2_with (at_builtin; refine Hid.out ?_)
  refine Lib.hid ?_
  refine wpList_apps _ rfl _ _ 23 9 (by rfl) w.heap.size 5 infoB Tryd.underlying23 Tryd.underlying9 (.slice A1 out.length c1) out.length (bv out) (by rfl) hown s (by rfl) (by omega) (by omega) ?_
  intro A2 c2 w2 hown2 hgrow2
  have F := (Fr.of_below hbel NoS).grown hgrow2 (fun k hk hlt => by have := (hown.lt k hk).1; omega)
  go_wp2
  go_ret
  refine ⟨A2, c2, by rw [List.length_append, HL.out]; rfl, ?_, Fr.below F⟩
  rw [List.length_append, HL.out, bv_append]
  exact hown2

/-- What a text's bytes tell. -/
def pgettext (b : Nat) (l : List UInt8) : List UInt8 × Int × Int :=
  match l with
  | [] => ([], 0, 3)
  | x :: _ =>
    if (x.toNat : Int) / 2 ^ b % 2 = 1 then ([], 0, 6)
    else if (pget b l).2.2 ≠ 0 then ([], 0, (pget b l).2.2)
    else if 2000 < (pget b l).1 then ([], 0, 4)
    else if (l.length : Int) - (pget b l).2.1 < (pget b l).1 then ([], 0, 3)
    else ((l.drop (pget b l).2.1.toNat).take (pget b l).1.toNat, (pget b l).2.1 + (pget b l).1, 0)
def tpgettext (b : Nat) (l : List UInt8) : Value := .tuple #[.string ⟨(pgettext b l).1.toArray⟩, .int .i64 (pgettext b l).2.1, .int .i64 (pgettext b l).2.2]

theorem shr_bit (x b : Nat) (hx : x < 256) (hb1 : 1 ≤ b) (h7 : b ≤ 7) : bits .and .u8 ((x : Int) / 2 ^ b) 1 = (x : Int) / 2 ^ b % 2 := by
  have h1 : (x : Int) / 2 ^ b = ((x / 2 ^ b : Nat) : Int) := by simp
  have h2 : x / 2 ^ b ≤ x := Nat.div_le_self _ _
  rw [h1, show (1 : Int) = ((1 : Nat) : Int) from rfl, u8_and_nat _ _ (by omega) (by omega), Nat.and_one_is_mod]
  omega
theorem ploop_ok : ∀ (f k : Nat) (n : Int) (l : List UInt8), 0 ≤ n → (ploop f k n l).2.2 = 0 → 0 ≤ (ploop f k n l).1 ∧ (ploop f k n l).1 ≤ 4611686018427387903 ∧ (k : Int) + 1 ≤ (ploop f k n l).2.1 ∧ (ploop f k n l).2.1 ≤ k + l.length := by
  intro f
  induction f with
  | zero => intro k n l _ h; simp [ploop] at h
  | succ f ih =>
    intro k n l hn h
    match l with
    | [] => simp [ploop] at h
    | c :: r =>
      have hT : 0 ≤ (c.toNat : Int) % 128 * 2 ^ (7 * (k - 1)) := Int.mul_nonneg (by omega) (Int.pow_nonneg (by omega))
      simp only [ploop] at h ⊢
      by_cases h1 : 4611686018427387903 < n + (c.toNat : Int) % 128 * 2 ^ (7 * (k - 1))
      · rw [if_pos h1] at h; simp at h
      · rw [if_neg h1] at h ⊢
        by_cases h2 : c.toNat < 128
        · rw [if_pos h2]; simp only [List.length_cons]; omega
        · rw [if_neg h2] at h ⊢
          have := ih (k + 1) _ r (by omega) h
          simp only [List.length_cons]
          omega
theorem pget_ok (b : Nat) (x : UInt8) (r : List UInt8) (hb1 : 1 ≤ b) (hb8 : b ≤ 8) (h : (pget b (x :: r)).2.2 = 0) : 0 ≤ (pget b (x :: r)).1 ∧ (pget b (x :: r)).1 ≤ 4611686018427387903 ∧ 1 ≤ (pget b (x :: r)).2.1 ∧ (pget b (x :: r)).2.1 ≤ r.length + 1 := by
  have hP := pmost_bd b hb1 hb8
  have hx := UInt8.toNat_lt x
  have h0 := Int.emod_nonneg (x.toNat : Int) (show (2 : Int) ^ b ≠ 0 by omega)
  have h1 := Int.emod_lt_of_pos (x.toNat : Int) (show (0 : Int) < 2 ^ b by omega)
  simp only [pget] at h ⊢
  by_cases hlt : (x.toNat : Int) % 2 ^ b < pmost b
  · rw [if_pos hlt]; simp only []; omega
  · rw [if_neg hlt] at h ⊢
    have := ploop_ok 9 1 _ r h0 h
    omega

set_option maxRecDepth 100000 in
set_option maxHeartbeats 2000000 in
theorem gettext_cons (x : UInt8) (r : List UInt8) (b : Nat) (A : Option Addr) (c : Nat) (w : World) (hb1 : 1 ≤ b) (hb7 : b ≤ 7) (hr : Rd w A (bv (x :: r))) (hm : r.length + 1 ≤ 140737488355328) (hc : r.length + 1 ≤ c) (hcc : c ≤ 9223372036854775807) :
    Calls Tryd.prog 72 #[.slice A (r.length + 1) c, .int .i64 b] w fun e w' => e = .returned (tpgettext b (x :: r)) ∧ w = w' := by
  have C := Lib.hid (pget_any (x :: r) b A c w hb1 (by omega) hr hm)
  have HOK := Lib.hid (pget_ok b x r hb1 (by omega))
  have HD := Lib.hid (fun k (h : k ≤ (bv (x :: r)).length) => hr.drop (k := k) (cap := c) h (by simpa using hc))
  obtain ⟨bl, off, rfl, hcell⟩ := hr (by simp)
  have h0 := hcell 0 _ (bv_get (k := 0) (by simp))
  simp only [List.getElem_cons_zero, Nat.add_zero] at h0
  clear hcell
  have hx := UInt8.toNat_lt x
  have hP := pmost_bd b hb1 (by omega)
  have hz : ((r.length : Int) + 1 == 0) = false := by rw [beq_eq_false_iff_ne]; omega
  have hand := shr_bit x.toNat b hx hb1 hb7
  have HG : pgettext b (x :: r) = if (x.toNat : Int) / 2 ^ b % 2 = 1 then ([], 0, 6)
    else if (pget b (x :: r)).2.2 ≠ 0 then ([], 0, (pget b (x :: r)).2.2)
    else if 2000 < (pget b (x :: r)).1 then ([], 0, 4)
    else if ((x :: r).length : Int) - (pget b (x :: r)).2.1 < (pget b (x :: r)).1 then ([], 0, 3)
    else (((x :: r).drop (pget b (x :: r)).2.1.toNat).take (pget b (x :: r)).1.toNat, (pget b (x :: r)).2.1 + (pget b (x :: r)).1, 0) := rfl
  obtain ⟨t, hte⟩ : ∃ t, (x.toNat : Int) / 2 ^ b % 2 = t := ⟨_, rfl⟩
  rw [hte] at hand HG
  have ht : t = 0 ∨ t = 1 := by omega
  obtain ⟨g, hge⟩ : ∃ g, pget b (x :: r) = g := ⟨_, rfl⟩
  rw [hge] at C HOK HG
  obtain ⟨N, a, e⟩ := g
  simp only [] at HG HOK
  replace HG := Lib.hid HG
  clear hte hge
  unfold tpgettext
  rcases ht with rfl | rfl
  · by_cases he : e = 0
    · subst he
      obtain ⟨hN0, hN1, ha1, ha2⟩ := HOK.out rfl
      obtain ⟨n, rfl⟩ := Int.eq_ofNat_of_zero_le hN0
      obtain ⟨a, rfl⟩ := Int.eq_ofNat_of_zero_le (show 0 ≤ a by omega)
      by_cases hb : 2000 < (n : Int)
      · have HE := Lib.hid (HG.out.trans (by rw [if_neg (by omega), if_neg (by simp), if_pos hb]))
        go_enter Tryd.func72, Tryd.ntmps72
        go_wp2_with fail
        refine C.out.mono ?_
        rintro e w' ⟨rfl, rfl⟩
        simp only [ptup]
        go_wp2_with fail
        go_ret3
        exact ⟨by rw [HE.out]; rfl, rfl⟩
      · by_cases hsh : (r.length : Int) + 1 - a < n
        · have HE := Lib.hid (HG.out.trans (by rw [if_neg (by omega), if_neg (by simp), if_neg hb, if_pos (by simpa using hsh)]))
          go_enter Tryd.func72, Tryd.ntmps72
          go_wp2_with fail
          refine C.out.mono ?_
          rintro e w' ⟨rfl, rfl⟩
          simp only [ptup]
          go_wp2_with fail
          go_ret3
          exact ⟨by rw [HE.out]; rfl, rfl⟩
        · have hd := HD.out a (by simp; omega)
          have htk := hd.take n
          rw [← bv_drop, ← bv_take] at htk
          have hlen : (((x :: r).drop a).take n).length = n := by simp; omega
          have HE : pgettext b (x :: r) = (((x :: r).drop a).take n, (a : Int) + n, 0) := HG.out.trans (by rw [if_neg (by omega), if_neg (by simp), if_neg hb, if_neg (by simpa using hsh)]; rfl)
          have hconv := run_conv_bytes (P := Tryd.prog) (src := 23) (dst := 9) (e := 5) Tryd.underlying23 Tryd.underlying5 Tryd.underlying9 (c := c - a) htk
          rw [hlen] at hconv
          rw [HE]
          generalize ((x :: r).drop a).take n = out at hconv
          clear HE HG htk hd hlen HD
          obtain ⟨S, hSe⟩ : ∃ S : ByteArray, (⟨out.toArray⟩ : ByteArray) = S := ⟨_, rfl⟩
          simp only [hSe] at hconv ⊢
          clear hSe
          by_cases hca : c = a
          · subst hca
            have hn0 : n = 0 := by omega
            subst hn0
            rw [if_pos rfl] at hconv
            simp only [Nat.sub_self] at hconv
            go_enter Tryd.func72, Tryd.ntmps72
            go_wp2_with fail
            refine C.out.mono ?_
            rintro e w' ⟨rfl, rfl⟩
            simp only [ptup]
            go_wp2_with fail
            go_ret3
            exact ⟨rfl, rfl⟩
          · rw [if_neg hca] at hconv
            simp only [Option.map_some, WideShapes.add_plain] at hconv
            go_enter Tryd.func72, Tryd.ntmps72
            go_wp2_with fail
            refine C.out.mono ?_
            rintro e w' ⟨rfl, rfl⟩
            simp only [ptup]
            go_wp2_with fail
            go_ret3
            exact ⟨rfl, rfl⟩
    · have HE := Lib.hid (HG.out.trans (by rw [if_neg (by omega), if_pos he]))
      have hne : (e != 0) = true := by rw [bne_iff_ne]; exact he
      clear he
      go_enter Tryd.func72, Tryd.ntmps72
      go_wp2_with fail
      refine C.out.mono ?_
      rintro e w' ⟨rfl, rfl⟩
      simp only [ptup]
      go_wp2_with fail
      go_ret3
      exact ⟨by rw [HE.out]; rfl, rfl⟩
  · have HE := Lib.hid (HG.out.trans (by rw [if_pos rfl]))
    go_enter Tryd.func72, Tryd.ntmps72
    go_wp2_with fail
    go_ret3
    exact ⟨by rw [HE.out]; rfl, rfl⟩

theorem gettext_any (l : List UInt8) (b : Nat) (A : Option Addr) (c : Nat) (w : World) (hb1 : 1 ≤ b) (hb7 : b ≤ 7) (hr : Rd w A (bv l)) (hm : l.length ≤ 140737488355328) (hc : l.length ≤ c) (hcc : c ≤ 9223372036854775807) :
    Calls Tryd.prog 72 #[.slice A l.length c, .int .i64 b] w fun e w' => e = .returned (tpgettext b l) ∧ w = w' := by
  match l, hr, hm, hc with
  | [], _, _, _ =>
    go_enter Tryd.func72, Tryd.ntmps72
    go_wp2
    go_ret3
    exact ⟨rfl, rfl⟩
  | x :: r, hr, hm, hc => exact gettext_cons x r b A c w hb1 hb7 hr hm hc hcc
end Go.Proofs.YtdldipkbknhhoaaDoor

/- The document's prefix.Put, PutText lay as ours. (Printed by gen_rtA.py.) -/
namespace Go.Proofs.YtdldipkbknhhoaaDoor
open Go.RowKit

set_option maxRecDepth 100000 in
set_option maxHeartbeats 2000000 in
theorem rpput_any (l : List UInt8) (f : Int) (b : Nat) (n : Int) (A : Option Addr) (c : Nat) (w : World) (hr : Rd w A (bv l)) (hl : l.length ≤ 70368744177664) (hf0 : 0 ≤ f) (hf1 : f ≤ 255) (hb1 : 1 ≤ b) (hb8 : b ≤ 8) (hn0 : 0 ≤ n) (hn1 : n ≤ 4611686018427387903) :
    Calls Tryd.prog 61 #[.slice A l.length c, .int .u8 f, .int .i64 b, .int .u64 n] w (RetS 5 w (l ++ pput f b n).length (bv (l ++ pput f b n))) := by
  have tb1 : decide ((b : Int) < 1) = false := decide_eq_false (by omega)
  have tb8 : decide ((8 : Int) < (b : Int)) = false := decide_eq_false (by omega)
  have tbn : decide ((4611686018427387903 : Int) < n) = false := decide_eq_false (by omega)
  have hP := pmost_bd b hb1 hb8
  obtain ⟨hd0, hd1, hda⟩ := phead_bd f b hf0 hf1 hb1 hb8
  have hand := andnot_most f b hf0 hf1 hb1 hb8
  have HP : pput f b n = if n < 2 ^ b - 1 then [UInt8.ofNat (phead f b + n).toNat] else UInt8.ofNat (phead f b + (2 ^ b - 1)).toNat :: pcont 9 (n - (2 ^ b - 1)) := rfl
  have HOR := Lib.hid (fun x (h0 : 0 ≤ x) (h : x < 2 ^ b) (h2 : phead f b + x ≤ 255) => or_head (phead f b) x b hb8 h0 h h2 hda)
  clear hda
  obtain ⟨P, hPe⟩ : ∃ P, (2 : Int) ^ b = P := ⟨_, rfl⟩
  rw [hPe] at hP hand HP HOR hd1
  obtain ⟨hd, hde⟩ : ∃ h, phead f b = h := ⟨_, rfl⟩
  rw [hde] at hand HP HOR hd0 hd1
  obtain ⟨out, houte⟩ : ∃ o, pput f b n = o := ⟨_, rfl⟩
  rw [houte] at HP ⊢
  replace HP := Lib.hid HP
  clear hde houte
  by_cases hlt : n < P - 1
  · have hor := HOR.out n hn0 (by omega) (by omega)
    go_enter Tryd.func61, Tryd.ntmps61
    go_wp2_with (at_builtin; refine Hid.out ?_)
    refine Lib.hid ?_
    refine wpList_app _ rfl _ _ 23 (by rfl) w.heap.size 5 (.int .u8 0) 1 infoB Tryd.underlying23 rfl (.slice none 0 0) 0 [] (by rfl) (World.ownsRow_nil _ _ _ _) A l.length c (bv l) (by rfl) (by simp) hr (bv_one l) (by unfold maxLen; omega) (by omega) (Nat.le_refl _) ?_
    intro A1 c1 w1 hown hgrow _
    have F := (Fr.refl NoS w).grown hgrow (fun k hk => by simp [Value.ownBlock] at hk)
    simp only [Nat.zero_add, List.nil_append] at hown
    clear hgrow
    go_wp2_with (at_builtin; refine Hid.out ?_)
    refine Lib.hid ?_
    refine wpList_app _ rfl _ _ 23 (by rfl) w.heap.size 5 (.int .u8 0) 1 infoB Tryd.underlying23 rfl (.slice A1 l.length c1) l.length (bv l) (by rfl) (hown.alloc _) (some ⟨w1.heap.size, 0, none⟩) 1 1 [.int .u8 (hd + n)] (by rfl) rfl (Rd.freshAt (by simp) _ _ rfl) (one_int _ _) (by unfold maxLen; omega) (by omega) (by have := F.size; simp; omega) ?_
    intro A2 c2 w2 hown2 hgrow2 _
    have R := put_one (x := hd + n) (by omega) (by omega) F (Nat.le_refl _) hown hown2 hgrow2
    go_wp2
    go_ret
    rw [HP.out, if_pos hlt]
    exact ⟨A2, c2, by rw [List.length_append]; rfl, R.1, Fr.below R.2⟩
  · have hor := HOR.out (P - 1) (by omega) (by omega) (by omega)
    go_enter Tryd.func61, Tryd.ntmps61
    go_wp2_with (at_builtin; refine Hid.out ?_)
    refine Lib.hid ?_
    refine wpList_app _ rfl _ _ 23 (by rfl) w.heap.size 5 (.int .u8 0) 1 infoB Tryd.underlying23 rfl (.slice none 0 0) 0 [] (by rfl) (World.ownsRow_nil _ _ _ _) A l.length c (bv l) (by rfl) (by simp) hr (bv_one l) (by unfold maxLen; omega) (by omega) (Nat.le_refl _) ?_
    intro A1 c1 w1 hown hgrow _
    have F := (Fr.refl NoS w).grown hgrow (fun k hk => by simp [Value.ownBlock] at hk)
    simp only [Nat.zero_add, List.nil_append] at hown
    clear hgrow
    go_wp2_with (at_builtin; refine Hid.out ?_)
    refine Lib.hid ?_
    refine wpList_app _ rfl _ _ 23 (by rfl) w.heap.size 5 (.int .u8 0) 1 infoB Tryd.underlying23 rfl (.slice A1 l.length c1) l.length (bv l) (by rfl) (hown.alloc _) (some ⟨w1.heap.size, 0, none⟩) 1 1 [.int .u8 (hd + (P - 1))] (by rfl) rfl (Rd.freshAt (by simp) _ _ rfl) (one_int _ _) (by unfold maxLen; omega) (by omega) (by have := F.size; simp; omega) ?_
    intro A2 c2 w2 hown2 hgrow2 _
    have R := put_one (x := hd + (P - 1)) (by omega) (by omega) F (Nat.le_refl _) hown hown2 hgrow2
    have HT : (l ++ [UInt8.ofNat (hd + (P - 1)).toNat]) ++ pcont 9 (n - (P - 1)) = l ++ out := by rw [HP.out, if_neg (by omega)]; simp
    have hl2 : (l ++ [UInt8.ofNat (hd + (P - 1)).toNat]).length = l.length + 1 := by simp
    rw [← hl2]
    generalize l ++ [UInt8.ofNat (hd + (P - 1)).toNat] = acc at R HT hl2 ⊢
    replace HT := Lib.hid HT
    clear hown hown2 hgrow2 F hor HP
    go_wp2_with fail
    go_loopw [9, 3] (fun v i wr => ∃ (g : Nat) (N : Int) (acc : List UInt8) (A' : Option Addr) (c' : Nat), g ≤ 9 ∧ acc.length + g ≤ l.length + 10 ∧ i = .int .u64 N ∧ 0 ≤ N ∧ N < 128 ^ (g + 1) ∧ v = .slice A' acc.length c' ∧ Hid (acc ++ pcont g N = l ++ out) ∧ wr.ownsRow w.heap.size 5 1 (.slice A' acc.length c') acc.length (bv acc) ∧ Fr NoS w wr) (fun _ i _ => (intOf i).toNat)
    case atStart => exact ⟨9, n - (P - 1), acc, A2, c2, by omega, by omega, rfl, by omega, by simp only [Int.reducePow, Nat.reduceAdd]; omega, by rw [hl2], HT, R.1, R.2⟩
    case round =>
      clear R HT hl2
      obtain ⟨g, N, acc, A3, c3, hg, hal, rfl, hN0, hN1, rfl, HT, hown, F⟩ := hrel
      by_cases hN : N < 128
      · have e128 : N % 256 = N := by omega
        go_wp2_with (at_builtin; refine Hid.out ?_)
        refine Lib.hid ?_
        refine wpList_app _ rfl _ _ 23 (by rfl) w.heap.size 5 (.int .u8 0) 1 infoB Tryd.underlying23 rfl (.slice A3 acc.length c3) acc.length (bv acc) (by rfl) (hown.alloc _) (some ⟨wr.heap.size, 0, none⟩) 1 1 [.int .u8 N] (by rfl) rfl (Rd.freshAt (by simp) _ _ rfl) (one_int _ _) (by unfold maxLen; omega) (by omega) (by have := F.size; simp; omega) ?_
        intro A4 c4 w4 hown4 hgrow4 _
        have R := put_one (x := N) (by omega) (by omega) F (Nat.le_refl _) hown hown4 hgrow4
        go_wp2
        go_ret
        rw [← HT.out, pcont_last g N hN]
        exact ⟨A4, c4, by rw [List.length_append]; rfl, R.1, Fr.below R.2⟩
      · obtain ⟨j, rfl⟩ : ∃ j, g = j + 1 := ⟨g - 1, by
          cases g with
          | zero => simp at hN1; omega
          | succ g => omega⟩
        have hor2 := or_more N hN0
        have HS : Hid ((acc ++ [UInt8.ofNat (N % 128 + 128).toNat]) ++ pcont j (N / 128) = l ++ out) := by
          have := HT.out
          rw [pcont_more j N hN0 hN] at this
          exact Lib.hid (by rw [← this]; simp)
        have hN2 : N / 128 < 128 ^ (j + 1) := by
          rw [Int.pow_succ] at hN1; exact Int.ediv_lt_of_lt_mul (by omega) hN1
        have HN2 := Lib.hid hN2
        clear hN2 hN1
        go_wp2_with (at_builtin; refine Hid.out ?_)
        refine Lib.hid ?_
        refine wpList_app _ rfl _ _ 23 (by rfl) w.heap.size 5 (.int .u8 0) 1 infoB Tryd.underlying23 rfl (.slice A3 acc.length c3) acc.length (bv acc) (by rfl) (hown.alloc _) (some ⟨wr.heap.size, 0, none⟩) 1 1 [.int .u8 (N % 128 + 128)] (by rfl) rfl (Rd.freshAt (by simp) _ _ rfl) (one_int _ _) (by unfold maxLen; omega) (by omega) (by have := F.size; simp; omega) ?_
        intro A4 c4 w4 hown4 hgrow4 _
        have R := put_one (x := N % 128 + 128) (by omega) (by omega) F (Nat.le_refl _) hown hown4 hgrow4
        clear hown hown4 hgrow4 F hor2
        go_wp2
        go_roundw
        case rel => exact ⟨j, N / 128, _, A4, c4, by omega, by simp; omega, rfl, by omega, HN2.out, by rw [List.length_append]; rfl, HS, R.1, R.2⟩
        case measure => simp [intOf]; omega

set_option maxRecDepth 100000 in
set_option maxHeartbeats 400000 in
theorem rptext_any (l : List UInt8) (f : Int) (b : Nat) (s : ByteArray) (A : Option Addr) (c : Nat) (w : World) (hr : Rd w A (bv l)) (hl : l.length ≤ 35184372088832) (hf0 : 0 ≤ f) (hf1 : f ≤ 255) (hb1 : 1 ≤ b) (hb7 : b ≤ 7) (hs : s.size ≤ 35184372088832) :
    Calls Tryd.prog 62 #[.slice A l.length c, .int .u8 f, .int .i64 b, .string s] w (RetS 5 w (l ++ ptext f b s.data.toList).length (bv (l ++ ptext f b s.data.toList))) := by
  have tb1 : decide ((b : Int) < 1) = false := decide_eq_false (by omega)
  have tb7 : decide ((7 : Int) < (b : Int)) = false := decide_eq_false (by omega)
  have hP := pmost_bd b hb1 (by omega)
  have hcl := pclr_bd f b hf0 hf1 hb1 hb7
  have hand := andnot_clr f b hf0 hf1 hb1 hb7
  have hlen : s.data.toList.length = s.size := by rw [Array.length_toList]; rfl
  have HT : l ++ ptext f b s.data.toList = (l ++ pput (pclr f b) b s.size) ++ s.data.toList := by unfold ptext; rw [hlen]; simp
  rw [HT]
  have C := Lib.hid (fun W h => rpput_any l (pclr f b) b s.size A c W h (by omega) hcl.1 hcl.2 hb1 (by omega) (by omega) (by omega))
  have hol : (pput (pclr f b) b s.size).length ≤ 11 := pput_len _ _ _
  have hpl : (l ++ pput (pclr f b) b s.size).length ≤ 35184372088832 + 11 := by rw [List.length_append]; omega
  obtain ⟨g, hg⟩ : ∃ g, pclr f b = g := ⟨_, rfl⟩
  rw [hg] at hand hcl hpl C ⊢
  obtain ⟨out, he⟩ : ∃ o, l ++ pput g b s.size = o := ⟨_, rfl⟩
  rw [he] at C hpl ⊢
  obtain ⟨P, hPe⟩ : ∃ P, (2 : Int) ^ b = P := ⟨_, rfl⟩
  rw [hPe] at hP hand
  have hPb : P ≤ 128 := by
    rw [← hPe]
    have : b = 1 ∨ b = 2 ∨ b = 3 ∨ b = 4 ∨ b = 5 ∨ b = 6 ∨ b = 7 := by omega
    rcases this with rfl | rfl | rfl | rfl | rfl | rfl | rfl <;> decide
  have HL := Lib.hid hlen
  clear hg he HT hol hlen
  go_enter Tryd.func62, Tryd.ntmps62
  go_wp2_with fail
  refine (C.out _ hr).mono ?_
  rintro e w1 ⟨A1, c1, rfl, hown, hbel⟩
  have hsz := hbel.size
  go_wp2_with (at_builtin; refine Hid.out ?_)
  refine Lib.hid ?_
  refine wpList_apps _ rfl _ _ 23 9 (by rfl) w.heap.size 5 infoB Tryd.underlying23 Tryd.underlying9 (.slice A1 out.length c1) out.length (bv out) (by rfl) hown s (by rfl) (by omega) (by omega) ?_
  intro A2 c2 w2 hown2 hgrow2
  have F := (Fr.of_below hbel NoS).grown hgrow2 (fun k hk hlt => by have := (hown.lt k hk).1; omega)
  go_wp2
  go_ret
  refine ⟨A2, c2, by rw [List.length_append, HL.out]; rfl, ?_, Fr.below F⟩
  rw [List.length_append, HL.out, bv_append]
  exact hown2

end Go.Proofs.YtdldipkbknhhoaaDoor

/- Rows that an object owns: what a call leaves of them, if it turns other blocks. Nothing of the program. -/
namespace Go.Proofs.YtdldipkbknhhoaaDoor
open Go.RowKit

section
variable {w w' : World} {base : Nat} {e : TypeId} {size : Nat} {v : Value} {n : Nat} {xs : List Value}
theorem own_fr {S : Nat → Prop} (h : w.ownsRow base e size v n xs) (f : Fr S w w') (hs : ∀ k, v.ownBlock = some k → ¬ S k) : w'.ownsRow base e size v n xs := by
  refine ⟨h.1, ?_⟩
  rcases h.2 with h2 | ⟨g, cap, cur, hv, hb, hg, r⟩
  · exact .inl h2
  · refine .inr ⟨g, cap, cur, hv, hb, ?_, r⟩
    have hlt : g < w.heap.size := (h.lt g (by rw [hv]; rfl)).2
    rw [f.block g hlt (hs g (by rw [hv]; rfl))]
    exact hg
theorem own_base {base2 : Nat} (h : w.ownsRow base e size v n xs) (hb : ∀ k, v.ownBlock = some k → base2 ≤ k) : w.ownsRow base2 e size v n xs := by
  refine ⟨h.1, ?_⟩
  rcases h.2 with h2 | ⟨g, cap, cur, hv, _, r⟩
  · exact .inl h2
  · exact .inr ⟨g, cap, cur, hv, hb g (by rw [hv]; rfl), r⟩
theorem heap_fr {S : Nat → Prop} {p : Nat} {o : Obj} (h : w.heap[p]? = some o) (f : Fr S w w') (hs : ¬ S p) : w'.heap[p]? = some o := by
  have hlt : p < w.heap.size := by
    rcases Nat.lt_or_ge p w.heap.size with h1 | h1
    · exact h1
    · rw [Array.getElem?_eq_none h1] at h; cases h
  rw [f.block p hlt hs]; exact h
theorem heap_lt {p : Nat} {o : Obj} (h : w.heap[p]? = some o) : p < w.heap.size := by
  rcases Nat.lt_or_ge p w.heap.size with h1 | h1
  · exact h1
  · rw [Array.getElem?_eq_none h1] at h; cases h
/-- nil, or a block of its own. -/
theorem own_cases {A : Option Addr} {c : Nat} (h : w.ownsRow base e 1 (.slice A n c) n xs) : (A = none ∧ n = 0 ∧ c = 0 ∧ xs = []) ∨ ∃ g, A = some ⟨g, 0, none⟩ ∧ base ≤ g ∧ g < w.heap.size := by
  rcases h.2 with ⟨h1, h2⟩ | ⟨g, cap, cur, hv, hb, hg, _⟩
  · injection h1 with h3 h4 h5
    have hl := h.1
    exact .inl ⟨h3, h2, h5, List.eq_nil_of_length_eq_zero (by omega)⟩
  · injection hv with h3
    exact .inr ⟨g, h3, hb, heap_lt hg⟩
end
/-- A list of bools as cells. -/
def bo (l : List Bool) : List Value := l.map Value.bool
@[simp] theorem bo_length (l : List Bool) : (bo l).length = l.length := by simp [bo]
theorem bo_get {l : List Bool} {k : Nat} (hk : k < l.length) : (bo l)[k]? = some (.bool l[k]) := by simp [bo, hk]
theorem bo_append (l m : List Bool) : bo (l ++ m) = bo l ++ bo m := by simp [bo]
theorem bo_drop (l : List Bool) (k : Nat) : bo (l.drop k) = (bo l).drop k := by simp [bo, List.map_drop]
theorem bo_one (l : List Bool) : ∀ u ∈ bo l, u.oneCell' = true := by
  intro u hu; obtain ⟨_, _, rfl⟩ := List.mem_map.1 hu; rfl
theorem tw_len (l : List Bool) : ∀ k, (∀ j, j < k → l[j]? = some true) → l[k]? ≠ some true → (l.takeWhile id).length = k := by
  induction l with
  | nil =>
    intro k h _
    cases k with
    | zero => rfl
    | succ k => have := h 0 (by omega); simp at this
  | cons b l ih =>
    intro k h h2
    cases k with
    | zero => cases b <;> simp at h2 ⊢
    | succ k =>
      have hb := h 0 (by omega)
      simp at hb
      subst hb
      simp only [List.takeWhile_cons, id, if_true, List.length_cons]
      rw [ih k (fun j hj => by simpa using h (j + 1) (by omega)) (by simpa using h2)]
end Go.Proofs.YtdldipkbknhhoaaDoor

/- A call that leaves memory as it was. Nothing of the program. -/
namespace Go.Proofs.YtdldipkbknhhoaaDoor
open Go.RowKit

structure Still (w w' : World) : Prop where
  heap : w'.heap = w.heap
  os : w'.os = w.os
  tape : w'.tape = w.tape
  output : w'.output = w.output

section
variable {w w' : World} {A : Option Addr} {xs : List Value}
theorem Still.refl (w : World) : Still w w := ⟨rfl, rfl, rfl, rfl⟩
theorem Still.drewN (w : World) (n : Nat) : Still w (w.drewN n) := ⟨rfl, rfl, rfl, rfl⟩
theorem Still.drew (w : World) : Still w w.drew := ⟨rfl, rfl, rfl, rfl⟩
theorem Still.trans {a b c : World} (h : Still a b) (k : Still b c) : Still a c := ⟨k.heap.trans h.heap, k.os.trans h.os, k.tape.trans h.tape, k.output.trans h.output⟩
theorem Still.fr (h : Still w w') (S : Nat → Prop) : Fr S w w' := ⟨h.os, h.tape, h.output, by rw [h.heap]; exact Nat.le_refl _, fun _ _ _ => by rw [h.heap]⟩
theorem Still.below (h : Still w w') : Below w.heap.size w w' := (h.fr NoS).below
theorem Still.size (h : Still w w') : w'.heap.size = w.heap.size := by rw [h.heap]
theorem Still.rd (h : Still w w') (r : Rd w A xs) : Rd w' A xs := r.heap h.heap
theorem Still.own (h : Still w w') {b e s n : Nat} {v : Value} (r : w.ownsRow b e s v n xs) : w'.ownsRow b e s v n xs := own_fr r (h.fr NoS) (fun _ _ x => x)
theorem still_of {f : FuncId} {P : Program} {args : Array Value} {v : Value} (h : Calls P f args w fun e w' => e = .returned v ∧ ∃ k, w' = w.drewN k) : Calls P f args w fun e w' => e = .returned v ∧ Still w w' :=
  h.mono fun _ _ ⟨he, k, hk⟩ => ⟨he, by subst hk; exact Still.drewN w k⟩
theorem still_of0 {f : FuncId} {P : Program} {args : Array Value} {v : Value} (h : Calls P f args w fun e w' => e = .returned v ∧ w = w') : Calls P f args w fun e w' => e = .returned v ∧ Still w w' :=
  h.mono fun _ _ ⟨he, hk⟩ => ⟨he, by subst hk; exact Still.refl w⟩

theorem cell_mark (w : World) (xs : List Value) (e : TypeId) (fr : Nat × Nat) (k : Nat) : (w.alloc (.cells xs.toArray e fr)).cell? ⟨w.heap.size, k, none⟩ = xs[k]? := by
  have h : (w.alloc (.cells xs.toArray e fr)).heap[w.heap.size]? = some (.cells xs.toArray e fr) := heap_alloc_new w _
  unfold World.cell?
  simp only [h]
  simp
/-- A new row reads so, whatever its mark. -/
theorem Rd.fresh_mark (w : World) (xs : List Value) (e : TypeId) (fr : Nat × Nat) : Rd (w.alloc (.cells xs.toArray e fr)) (some ⟨w.heap.size, 0, none⟩) xs := fun _ =>
  ⟨w.heap.size, 0, rfl, fun k u hu => by rw [Nat.zero_add, cell_mark]; exact hu⟩
theorem fresh_far {p N : Nat} {a : Addr} (h : N ≤ w.heap.size) (ha : some ⟨w.heap.size, 0, none⟩ = some a) : a.block < p ∨ N ≤ a.block := by
  injection ha with ha; subst ha; exact .inr h
end

section
variable {P : Program} {ops : Array Oper} {Q : Exit → Act → World → Prop} {a : Act} {rest : List Oper} {o : Oper}
theorem wpList_want {w : World} (hw : Region.wanted o (yielded ops a.tmps) = true)
    (h : ∀ K : Act → World → Prop, (∀ a w, wpList P ops Q rest a w → K a w) → o.wp P a w K Q) : wpList P ops Q (o :: rest) a w := by
  simp only [wpList, hw, if_true]
  exact .inl (h _ (fun _ _ h => h))
/-- 'append(v, xs...)', v the call's own row (or nil), in a guarded operation that runs. -/
theorem wpList_appG (w : World) (hgd : Region.wanted o (yielded ops a.tmps) = true) (s x : Operand) (t : TypeId)
    (ho : o.op = .call { callee := .builtin .append, args := #[s, x], argTypes := #[t, t] })
    (base : Nat) (e : TypeId) (z : Value) (bytes : Nat) (hinfo : (P.info? e).map (fun i => (i.zero, i.size, i.bytes)) = some (some z, 1, bytes)) (ht : P.underlying t = some (.slice e)) (hzs : z.cells.size = 1)
    (v : Value) (n : Nat) (xs : List Value) (hs : a.eval s = v) (hown : w.ownsRow base e 1 v n xs)
    (A : Option Addr) (m c : Nat) (news : List Value) (hx : a.eval x = .slice A m c) (hl : news.length = m) (hr : Rd w A news) (h1 : ∀ u ∈ news, u.oneCell' = true)
    (h63 : n + m ≤ maxLen) (hbytes : (n + m) * bytes ≤ 140737488355328) (hbase : base ≤ w.heap.size)
    (h : ∀ A' c' w', w'.ownsRow base e 1 (.slice A' (n + m) c') (n + m) (xs ++ news) → w.grownBy w' v.ownBlock →
      ((Value.slice A' (n + m) c').ownBlock = v.ownBlock ∨ (Value.slice A' (n + m) c').ownBlock = some w.heap.size) → wpList P ops Q rest (a.put o.dst (.slice A' (n + m) c')) w') : wpList P ops Q (o :: rest) a w := by
  obtain ⟨i, hi, hz, hsize, hby⟩ := info_parts hinfo
  exact wpList_want hgd fun _ hK => wp_app w s x t ho base e i z bytes ht hi hz hsize hby hzs v n xs hs hown A m c news hx hl hr h1 h63 hbytes hbase fun A' c' w' h2 h3 h4 => hK _ _ (h A' c' w' h2 h3 h4)
end
end Go.Proofs.YtdldipkbknhhoaaDoor

/- Rows of records of several cells: stores into them, cuts, loads, append. Nothing of the program. -/
namespace Go.Proofs.YtdldipkbknhhoaaDoor
open Go.RowKit

section
variable {base : Nat} {e : TypeId} {size n g cap : Nat}

/-- What a row holds behind some stores in a row. -/
theorem own_setCells : ∀ (vs : List Value) (o : Nat) (w : World) (xs : List Value), w.ownsRow base e size (.slice (some ⟨g, 0, none⟩) n cap) n xs → o + vs.length ≤ xs.length →
    (w.setCells g o vs).ownsRow base e size (.slice (some ⟨g, 0, none⟩) n cap) n (xs.take o ++ vs ++ xs.drop (o + vs.length)) ∧ Fr (fun k => k = g) w (w.setCells g o vs)
  | [], o, w, xs, h, _ => ⟨by simpa [World.setCells] using h, Fr.refl _ _⟩
  | v :: r, o, w, xs, h, ho => by
    simp only [List.length_cons] at ho
    have h1 := (h.stored o v).1
    have := own_setCells r (o + 1) _ _ h1 (by simp; omega)
    refine ⟨?_, Fr.trans ((Fr.refl (fun k => k = g) w).setCell (p := ⟨g, o, none⟩) (fun _ => rfl) v) this.2⟩
    have e : xs.take o ++ (v :: r) ++ xs.drop (o + (v :: r).length) = (xs.set o v).take (o + 1) ++ r ++ (xs.set o v).drop (o + 1 + r.length) := by
      rw [List.drop_set_of_lt (by omega), List.length_cons, show o + (r.length + 1) = o + 1 + r.length by omega]
      congr 1
      rw [List.take_succ_eq_append_getElem (by simp; omega), List.getElem_set_self, List.take_set_of_le (by omega)]
      simp
    rw [e]
    exact this.1

/-- The first m elements of a row. -/
theorem own_cut {w : World} {v : List Value} {m : Nat} (h : w.ownsRow base e size (.slice (some ⟨g, 0, none⟩) n cap) n v) (hm : m ≤ n) : w.ownsRow base e size (.slice (some ⟨g, 0, none⟩) m cap) m (v.take (m * size)) := by
  have hmn : m * size ≤ n * size := Nat.mul_le_mul_right _ hm
  refine ⟨by rw [List.length_take, h.1]; omega, ?_⟩
  rcases h.2 with ⟨h', _⟩ | ⟨g', cap', cur, h', hb, hg, hnc, hcm, hcs, htake⟩
  · simp at h'
  · simp only [Value.slice.injEq, Option.some.injEq, Addr.mk.injEq, and_true, true_and] at h'
    obtain ⟨rfl, rfl⟩ := h'
    exact .inr ⟨g, cap, cur, rfl, hb, hg, by omega, hcm, hcs, by rw [← htake, List.take_take, Nat.min_eq_left hmn]⟩
/-- A row's elements' own block is of its type. -/
theorem own_typed {w : World} {v : List Value} {p : Nat} {cs : Array Value} {t : TypeId} (h : w.ownsRow base e size (.slice (some ⟨g, 0, none⟩) n cap) n v) (hp : w.heap[p]? = some (.cells cs t (0, 0))) (ht : (t == e) = false) : p ≠ g := by
  rcases h.2 with ⟨h', _⟩ | ⟨g', cap', cur, h', hb, hg, hnc, hcm, hcs, htake⟩
  · simp at h'
  · simp only [Value.slice.injEq, Option.some.injEq, Addr.mk.injEq, and_true, true_and] at h'
    obtain ⟨rfl, rfl⟩ := h'
    rintro rfl
    rw [hg] at hp
    injection hp with hp
    injection hp with _ h2
    rw [h2] at ht
    simp at ht
end

theorem Rd.fresh_to {w : World} {g : Nat} (h : w.heap.size = g) (xs : List Value) (e : TypeId) (fr : Nat × Nat) : Rd (w.alloc (.cells xs.toArray e fr)) (some ⟨g, 0, none⟩) xs := by
  subst h; exact Rd.fresh_mark w xs e fr
theorem Rd.cells {w : World} {ad : Addr} {xs : List Value} (h : Rd w (some ad) xs) : ∀ j u, xs[j]? = some u → w.cell? (ad.add j) = some u := by
  intro j u hu
  obtain ⟨b, off, e, hc⟩ := h (by have := (List.getElem?_eq_some_iff.1 hu).1; omega)
  injection e with e
  subst e
  rw [WideShapes.add_plain]
  exact hc j u hu

section
variable {P : Program}
/-- A load of a record. -/
theorem load_rec {W : World} {b off i : Nat} {xs cs : List Value} (hr : Rd W (some ⟨b, off, none⟩) xs) (hk : ∀ j v, cs[j]? = some v → xs[i + j]? = some v) :
    Sem.run P (loadCellsFrom ⟨b, off + i, none⟩ 0 cs.length #[]) W = .ok cs.toArray W := by
  have := run_loadCells_list (P := P) (w := W) ⟨b, off + i, none⟩ cs (fun j v hj => by
    have h1 := hk j v hj
    have hl : 0 < xs.length := by have := (List.getElem?_eq_some_iff.1 h1).1; omega
    obtain ⟨b', off', e, hc⟩ := hr hl
    injection e with e
    injection e with e1 e2
    subst e1 e2
    rw [WideShapes.add_plain, show off + i + j = off + (i + j) by omega]
    exact hc _ _ h1)
  simpa [loadCells] using this

theorem wp_appS {w : World} {o : Oper} {a : Act} {K : Act → World → Prop} {Q : Exit → Act → World → Prop} (s x : Operand) (t : TypeId)
    (ho : o.op = .call { callee := .builtin .append, args := #[s, x], argTypes := #[t, t] })
    (base : Nat) (e : TypeId) (i : TypeInfo) (z : Value) (size bytes : Nat) (ht : P.underlying t = some (.slice e)) (hi : P.info? e = some i) (hz : i.zero = some z)
    (hsize : i.size = size) (hby : i.bytes = bytes) (hzs : z.cells.size = size) (hsz : 0 < size)
    (v : Value) (n : Nat) (xs : List Value) (hs : a.eval s = v) (hown : w.ownsRow base e size v n xs)
    (ad : Addr) (m c : Nat) (news : List Value) (hx : a.eval x = .slice (some ad) m c) (hl : news.length = m * size) (hr : ∀ j u, news[j]? = some u → w.cell? (ad.add j) = some u) (h1 : ∀ u ∈ news, u.oneCell' = true)
    (h63 : n + m ≤ maxLen) (hbytes : (n + m) * bytes ≤ 140737488355328) (hbase : base ≤ w.heap.size)
    (h : ∀ A' c' w', w'.ownsRow base e size (.slice A' (n + m) c') (n + m) (xs ++ news) → w.grownBy w' v.ownBlock →
      ((Value.slice A' (n + m) c').ownBlock = v.ownBlock ∨ (Value.slice A' (n + m) c').ownBlock = some w.heap.size) → K (a.put o.dst (.slice A' (n + m) c')) w') : o.wp P a w K Q := by
  obtain ⟨v', w', hrun, h2, h3, _, h5⟩ := run_append_own_at (P := P) w base t o.type e i z size bytes ht hi hz hsize hby hzs hsz v n xs hown ad m c news hl hr h1 h63 hbytes hbase
  obtain ⟨A', c', hv, _⟩ := own_shape w' h2
  subst hv
  unfold Oper.wp execOp
  simp only [ho, resolve, invoke, builtin, Sem.run_bind, Sem.run_pure, Result.andThen_ok, List.map_toArray, List.map_cons, List.map_nil, hs, hx, hrun]
  exact h A' c' w' h2 h3 h5

/-- 'append(v, xs...)', v the call's own row of records (or nil). -/
theorem wpList_appS {w : World} {ops : Array Oper} {rest : List Oper} {o : Oper} {a : Act} {Q : Exit → Act → World → Prop} (hgd : o.guard = none) (s x : Operand) (t : TypeId)
    (ho : o.op = .call { callee := .builtin .append, args := #[s, x], argTypes := #[t, t] })
    (base : Nat) (e : TypeId) (z : Value) (size bytes : Nat) (hinfo : (P.info? e).map (fun i => (i.zero, i.size, i.bytes)) = some (some z, size, bytes)) (ht : P.underlying t = some (.slice e)) (hzs : z.cells.size = size) (hsz : 0 < size)
    (v : Value) (n : Nat) (xs : List Value) (hs : a.eval s = v) (hown : w.ownsRow base e size v n xs)
    (ad : Addr) (m c : Nat) (news : List Value) (hx : a.eval x = .slice (some ad) m c) (hl : news.length = m * size) (hr : ∀ j u, news[j]? = some u → w.cell? (ad.add j) = some u) (h1 : ∀ u ∈ news, u.oneCell' = true)
    (h63 : n + m ≤ maxLen) (hbytes : (n + m) * bytes ≤ 140737488355328) (hbase : base ≤ w.heap.size)
    (h : ∀ A' c' w', w'.ownsRow base e size (.slice A' (n + m) c') (n + m) (xs ++ news) → w.grownBy w' v.ownBlock →
      ((Value.slice A' (n + m) c').ownBlock = v.ownBlock ∨ (Value.slice A' (n + m) c').ownBlock = some w.heap.size) → wpList P ops Q rest (a.put o.dst (.slice A' (n + m) c')) w') : wpList P ops Q (o :: rest) a w := by
  obtain ⟨i, hi, hz, hsize, hby⟩ := info_parts hinfo
  exact wpList_plain hgd fun _ hK => wp_appS s x t ho base e i z size bytes ht hi hz hsize hby hzs hsz v n xs hs hown ad m c news hx hl hr h1 h63 hbytes hbase fun A' c' w' h2 h3 h4 => hK _ _ (h A' c' w' h2 h3 h4)

/-- Cuts of a slice of records. -/
theorem cutS_l {t e : TypeId} {z : Value} {size bytes : Nat} (ht : P.underlying t = some (.slice e)) (hinfo : (P.info? e).map (fun i => (i.zero, i.size, i.bytes)) = some (some z, size, bytes)) (A : Option Addr) (len cap l m : Nat) (li : Int) (h1 : li = l) (hl : l + m = len) (hh : len ≤ cap) :
    ∀ w : World, (Instr.sliceAt t (.slice A len cap) (some (.int .i64 li)) none none).run P w = .ok (.slice (if cap = l then A else A.map (·.add (l * size))) m (cap - l)) w := by
  intro w
  subst h1
  obtain ⟨i, hi, -, hz, -⟩ := info_parts hinfo
  simp [Instr.sliceAt, Instr.slice, run_underlying ht, Instr.sliceBounds, run_sliceBound, (by omega : (l : Int) ≤ len), sizeOf, typeInfo, hi, hz, (by omega : len - l = m)]
theorem cutS_lh {t e : TypeId} {z : Value} {size bytes : Nat} (ht : P.underlying t = some (.slice e)) (hinfo : (P.info? e).map (fun i => (i.zero, i.size, i.bytes)) = some (some z, size, bytes)) (A : Option Addr) (len cap l h m : Nat) (li hi : Int) (h1 : li = l) (h2 : hi = h) (hl : l + m = h) (hh : h ≤ cap) :
    ∀ w : World, (Instr.sliceAt t (.slice A len cap) (some (.int .i64 li)) (some (.int .i64 hi)) none).run P w = .ok (.slice (if cap = l then A else A.map (·.add (l * size))) m (cap - l)) w := by
  intro w
  subst h1 h2
  obtain ⟨i, hi, -, hz, -⟩ := info_parts hinfo
  simp [Instr.sliceAt, Instr.slice, run_underlying ht, Instr.sliceBounds, run_sliceBound, (by omega : (l : Int) ≤ h), (by omega : (h : Int) ≤ cap), sizeOf, typeInfo, hi, hz, (by omega : h - l = m)]
theorem cutS_h {t e : TypeId} {z : Value} {size bytes : Nat} (ht : P.underlying t = some (.slice e)) (hinfo : (P.info? e).map (fun i => (i.zero, i.size, i.bytes)) = some (some z, size, bytes)) (A : Option Addr) (len cap h : Nat) (hi : Int) (h2 : hi = h) (hh : h ≤ cap) :
    ∀ w : World, (Instr.sliceAt t (.slice A len cap) none (some (.int .i64 hi)) none).run P w = .ok (.slice A h cap) w := by
  intro w
  subst h2
  obtain ⟨i, hi, -, hz, -⟩ := info_parts hinfo
  have e : (if cap = 0 then A else Option.map (fun x => x.add (0 * i.size)) A) = A := by
    split
    · rfl
    · cases A with
      | none => rfl
      | some a => simp [Addr.add]
  simp only [Nat.zero_mul] at e
  simp [Instr.sliceAt, Instr.slice, run_underlying ht, Instr.sliceBounds, run_sliceBound, (by omega : (h : Int) ≤ cap), sizeOf, typeInfo, hi, hz, e]
theorem cutS_lhm {t e : TypeId} {z : Value} {size bytes : Nat} (ht : P.underlying t = some (.slice e)) (hinfo : (P.info? e).map (fun i => (i.zero, i.size, i.bytes)) = some (some z, size, bytes)) (A : Option Addr) (len cap l h x : Nat) (li hi xi : Int) (h1 : li = l) (h2 : hi = h) (h3 : xi = x) (hl : l ≤ h) (hh : h ≤ x) (hx : x ≤ cap) :
    ∃ X m c, ∀ w : World, (Instr.sliceAt t (.slice A len cap) (some (.int .i64 li)) (some (.int .i64 hi)) (some (.int .i64 xi))).run P w = .ok (.slice X m c) w := by
  subst h1 h2 h3
  obtain ⟨i, hi, -, hz, -⟩ := info_parts hinfo
  refine ⟨if x = l then A else A.map (·.add (l * size)), h - l, x - l, fun w => ?_⟩
  simp [Instr.sliceAt, Instr.slice, run_underlying ht, Instr.sliceBounds, run_sliceBound, (by omega : (l : Int) ≤ h), (by omega : (h : Int) ≤ x), (by omega : (x : Int) ≤ cap), sizeOf, typeInfo, hi, hz]

/-- 'clear(s)', s a slice of n > 0 records. -/
theorem run_clear_rec (w : World) (t e ty : TypeId) (z : Value) (size : Nat) (ht : P.underlying t = some (.slice e)) (hv : ∀ w, (zeroValue e).run P w = .ok z w) (hz : z.cells.size = size) (h1 : ∀ u ∈ z.cells.toList, u.oneCell' = true) (b o c : Nat)
    (hc : ∀ j, j < size → (w.cell? ⟨b, o + j, none⟩).isSome = true) (hf : ∀ j, j < size → w.frozen? ⟨b, o + j, none⟩ = false) :
    (Builtin.clear_ #[t] ty #[.slice (some ⟨b, o, none⟩) 1 c]).run P w = .ok (.tuple #[]) (w.setCells b o z.cells.toList) := by
  have hzc : (Builtin.zeroCells z.cells 1).toList = z.cells.toList := by
    unfold Builtin.zeroCells
    apply List.ext_getElem
    · simp
    · intro i h1 h2
      simp at h1 h2
      simp [Nat.mod_eq_of_lt h2]
      exact getElem!_pos z.cells i h2
  have hst := run_storeCells_cells (P := P) b o z.cells.toList 0 w (by simpa [hz] using hc) (by simpa [hz] using hf) (by intro v hv'; exact h1 v hv')
  simp only [Nat.add_zero] at hst
  simp [Builtin.clear_, run_underlying ht, hv, hzc, hst]
end
end Go.Proofs.YtdldipkbknhhoaaDoor

/- Rows of records of any kind: their cells as one list. Nothing of the program. -/
namespace Go.Proofs.YtdldipkbknhhoaaDoor
open Go.RowKit

section
variable {α : Type} (c : α → List Value) {s : Nat}
def rv : List α → List Value
  | [] => []
  | x :: l => c x ++ rv l
theorem rv_append (l m : List α) : rv c (l ++ m) = rv c l ++ rv c m := by
  induction l with
  | nil => rfl
  | cons x l ih => simp [rv, ih]
theorem rv_single (x : α) : rv c [x] = c x := by simp [rv]
theorem rv_length (hc : ∀ x, (c x).length = s) (l : List α) : (rv c l).length = l.length * s := by
  induction l with
  | nil => simp [rv]
  | cons x l ih => simp [rv, ih, hc, Nat.succ_mul]; omega
theorem rv_one (h1 : ∀ x, ∀ u ∈ c x, u.oneCell' = true) (l : List α) : ∀ u ∈ rv c l, u.oneCell' = true := by
  induction l with
  | nil => intro u hu; cases hu
  | cons x l ih =>
    intro u hu
    rcases List.mem_append.1 hu with hu | hu
    · exact h1 x u hu
    · exact ih u hu
theorem rv_get (hc : ∀ x, (c x).length = s) : ∀ (l : List α) (k : Nat) (x : α), l[k]? = some x → ∀ j v, (c x)[j]? = some v → (rv c l)[k * s + j]? = some v
  | y :: l, 0, x, h, j, v, hv => by
    simp at h; subst h
    have hj : j < s := by have := (List.getElem?_eq_some_iff.1 hv).1; rwa [hc] at this
    rw [rv, List.getElem?_append_left (by rw [hc]; omega)]
    simpa using hv
  | y :: l, k + 1, x, h, j, v, hv => by
    have := rv_get hc l k x (by simpa using h) j v hv
    rw [rv, List.getElem?_append_right (by rw [hc, Nat.succ_mul]; omega), hc, show (k + 1) * s + j - s = k * s + j by rw [Nat.succ_mul]; omega]
    exact this
theorem rv_take (hc : ∀ x, (c x).length = s) (l : List α) (k : Nat) : rv c (l.take k) = (rv c l).take (k * s) := by
  induction l generalizing k with
  | nil => simp [rv]
  | cons x l ih =>
    cases k with
    | zero => simp [rv]
    | succ k => rw [List.take_succ_cons, rv, rv, ih, List.take_append, hc, List.take_of_length_le (l := c x) (by rw [hc, Nat.succ_mul]; omega), show (k + 1) * s - s = k * s by rw [Nat.succ_mul]; omega]
theorem rv_drop (hc : ∀ x, (c x).length = s) (l : List α) (k : Nat) : rv c (l.drop k) = (rv c l).drop (k * s) := by
  induction l generalizing k with
  | nil => simp [rv]
  | cons x l ih =>
    cases k with
    | zero => simp [rv]
    | succ k => rw [List.drop_succ_cons, rv, ih, List.drop_append, hc, (List.drop_eq_nil_of_le (by rw [hc, Nat.succ_mul]; omega) : List.drop ((k + 1) * s) (c x) = []), show (k + 1) * s - s = k * s by rw [Nat.succ_mul]; omega, List.nil_append]
theorem set_split (l : List α) (k : Nat) (y : α) (hk : k < l.length) : l.set k y = l.take k ++ y :: l.drop (k + 1) := List.set_eq_take_append_cons_drop .. |>.trans (if_pos hk)
theorem rv_set (hc : ∀ x, (c x).length = s) (l : List α) (k : Nat) (y : α) (hk : k < l.length) : rv c (l.set k y) = (rv c l).take (k * s) ++ c y ++ (rv c l).drop ((k + 1) * s) := by
  rw [set_split l k y hk, rv_append, rv_take c hc, rv, rv_drop c hc, List.append_assoc]
/-- A record's cells. -/
theorem rv_cell {W : World} {A : Option Addr} {l : List α} (hc : ∀ x, (c x).length = s) (hs : 0 < s) (hr : Rd W A (rv c l)) {k : Nat} (hk : k < l.length) :
    ∃ b off, A = some ⟨b, off, none⟩ ∧ ∀ j v, (c l[k])[j]? = some v → W.cell? ⟨b, off + k * s + j, none⟩ = some v := by
  obtain ⟨b, off, e, h⟩ := hr (by rw [rv_length c hc]; exact Nat.mul_pos (by omega) hs)
  refine ⟨b, off, e, fun j v hv => ?_⟩
  rw [Nat.add_assoc]
  exact h _ _ (rv_get c hc l k _ (List.getElem?_eq_getElem hk) j v hv)
end
/-- A row of its own reads so. -/
theorem Rd.of_ownS {w : World} {base e s n cp : Nat} {A : Option Addr} {xs : List Value} (h : w.ownsRow base e s (.slice A n cp) n xs) : Rd w A xs := fun hn => by
  have hl := h.1
  rcases h.2 with ⟨h1, h2⟩ | ⟨g, cap, cur, hv, _, hg, hnc, _, hcs, ht⟩
  · subst h2; rw [Nat.zero_mul] at hl; omega
  · injection hv with hA _ _
    subst hA
    refine ⟨g, 0, rfl, fun k u hu => ?_⟩
    rw [Nat.zero_add, cell_of_row w g k cur _ (0, 0) hg]
    rw [← ht, List.getElem?_take] at hu
    split at hu
    · simpa using hu
    · cases hu
/-- nil, or a block of its own. -/
theorem ownS_cases {w : World} {base e s n cp : Nat} {A : Option Addr} {xs : List Value} (h : w.ownsRow base e s (.slice A n cp) n xs) : (A = none ∧ n = 0 ∧ cp = 0 ∧ xs = []) ∨ ∃ g, A = some ⟨g, 0, none⟩ ∧ base ≤ g ∧ g < w.heap.size ∧ n ≤ cp ∧ cp ≤ maxLen := by
  rcases h.2 with ⟨h1, h2⟩ | ⟨g, cap, cur, hv, hb, hg, hnc, hm, _⟩
  · injection h1 with h3 h4 h5
    have hl := h.1
    exact .inl ⟨h3, h2, h5, List.eq_nil_of_length_eq_zero (by rw [hl, h2]; simp)⟩
  · injection hv with h3 h4 h5
    subst h5
    exact .inr ⟨g, h3, hb, heap_lt hg, hnc, hm⟩
end Go.Proofs.YtdldipkbknhhoaaDoor

/- The blocks of an object that keeps one row; functions handed over as values. Nothing of the program but its name. -/
namespace Go.Proofs.YtdldipkbknhhoaaDoor
open Go.RowKit

/-- The blocks of an object that keeps one row. -/
def OnB (p : Nat) (A : Option Addr) (k : Nat) : Prop := k = p ∨ ∃ a, A = some a ∧ a.block = k
/-- What follows on an object's row: the same block, or a new one. -/
def Next (w : World) (A A' : Option Addr) : Prop := ∀ a, A' = some a → (∃ b, A = some b ∧ b.block = a.block) ∨ w.heap.size ≤ a.block
theorem Next.refl (w : World) (A : Option Addr) : Next w A A := fun a h => .inl ⟨a, h, rfl⟩
theorem Next.far {w : World} {p : Nat} {A A' : Option Addr} (h : Next w A A') {k : Nat} (hk : k < w.heap.size) (hn : ¬ OnB p A k) : ¬ OnB p A' k := by
  rintro (h1 | ⟨a, ha, hb⟩)
  · exact hn (.inl h1)
  · rcases h a ha with ⟨b, hb1, hb2⟩ | h2
    · exact hn (.inr ⟨b, hb1, hb2.trans hb⟩)
    · omega
theorem Next.trans {w w1 : World} {A B C : Option Addr} (h : Next w A B) (hs : w.heap.size ≤ w1.heap.size) (k : Next w1 B C) : Next w A C := fun a ha => by
  rcases k a ha with ⟨b, hb1, hb2⟩ | h2
  · rcases h b hb1 with ⟨d, hd1, hd2⟩ | h3
    · exact .inl ⟨d, hd1, hd2.trans hb2⟩
    · exact .inr (by omega)
  · exact .inr (by omega)
/-- Two steps, the second on what follows. -/
theorem Fr.next {p : Nat} {A B : Option Addr} {w w1 w2 : World} (f : Fr (OnB p A) w w1) (n : Next w A B) (g : Fr (OnB p B) w1 w2) : Fr (OnB p A) w w2 := by
  refine f.trans' g (fun i hi hlt => ?_)
  rcases hi with h1 | ⟨b, hb1, hb2⟩
  · exact .inl h1
  · rcases n b hb1 with ⟨a, ha1, ha2⟩ | h2
    · exact .inr ⟨a, ha1, ha2.trans hb2⟩
    · omega
theorem wrote_cell {w : World} {p : Nat} {cs : Array Value} {t : TypeId} (h : w.heap[p]? = some (.cells cs t (0, 0))) (i : Nat) (v : Value) (hi : cs[i]? = some v) : w.cell? ⟨p, i, none⟩ = some v := by
  rw [cell_of_row w p i cs t (0, 0) h]; exact hi
/-- A function of the program, called by its value, is entered. -/
def Ent (g : Nat) : Prop := ∀ (args : Array Value) (w : World), (callFunc g args).run Tryd.prog w = .ok (.enter g args) w
theorem mkfn (fn : Fn) (first cap : Array Value) (w : World) : (Instr.makeFunc fn first cap).run Tryd.prog w = .ok (.func fn first cap) w := rfl

section
variable {α : Type}
/-- The first place at which a test holds, or -1. -/
def fidx (q : α → Bool) (l : List α) : Int := match l.findIdx? q with | some k => (k : Int) | none => -1
theorem fidx_hit (q : α → Bool) (l : List α) (k : Nat) (x : α) (h : l[k]? = some x) (hq : q x = true) (hb : ∀ j, j < k → ∀ y, l[j]? = some y → q y = false) : fidx q l = k := by
  have : l.findIdx? q = some k := by
    rw [List.findIdx?_eq_some_iff_getElem]
    obtain ⟨hk, he⟩ := List.getElem?_eq_some_iff.1 h
    refine ⟨hk, by rw [he]; exact hq, fun j hj => ?_⟩
    rw [hb j hj _ (List.getElem?_eq_getElem (by omega))]
    simp
  unfold fidx; rw [this]
theorem fidx_miss (q : α → Bool) (l : List α) (hb : ∀ j, j < l.length → ∀ y, l[j]? = some y → q y = false) : fidx q l = -1 := by
  have : l.findIdx? q = none := by
    rw [List.findIdx?_eq_none_iff]
    intro x hx
    obtain ⟨j, hj, rfl⟩ := List.getElem_of_mem hx
    exact hb j hj _ (List.getElem?_eq_getElem hj)
  unfold fidx; rw [this]
theorem fidx_any (q : α → Bool) (l : List α) : decide (0 ≤ fidx q l) = l.any q := by
  unfold fidx
  rcases h : l.findIdx? q with _ | k
  · rw [List.findIdx?_eq_none_iff] at h
    have : l.any q = false := List.any_eq_false.2 (fun x hx => by rw [h x hx]; simp)
    rw [this]; rfl
  · obtain ⟨hk, hq, _⟩ := List.findIdx?_eq_some_iff_getElem.1 h
    have : l.any q = true := List.any_eq_true.2 ⟨_, List.getElem_mem hk, hq⟩
    rw [this]
    exact decide_eq_true (by simp only; omega)
end
end Go.Proofs.YtdldipkbknhhoaaDoor

/- Objects: which blocks they own, what a call on them may turn; two beside one another. Nothing of the program. -/
namespace Go.Proofs.YtdldipkbknhhoaaDoor
open Go.RowKit

/-- Of a kind of object: it is at p, its blocks are S, what it holds is s. -/
structure ObjOk {σ : Type} (I : World → Nat → (Nat → Prop) → σ → Prop) : Prop where
  fr : ∀ {w w' : World} {p : Nat} {S T : Nat → Prop} {s : σ}, I w p S s → Fr T w w' → (∀ k, S k → ¬ T k) → I w' p S s
  lt : ∀ {w : World} {p : Nat} {S : Nat → Prop} {s : σ}, I w p S s → ∀ k, S k → k < w.heap.size
/-- What follows on an object's blocks: the same ones, or new ones. -/
def Nxt (w : World) (S S' : Nat → Prop) : Prop := ∀ k, S' k → S k ∨ w.heap.size ≤ k
theorem Nxt.refl (w : World) (S : Nat → Prop) : Nxt w S S := fun _ h => .inl h
theorem Nxt.trans {w w1 : World} {S T U : Nat → Prop} (h : Nxt w S T) (hs : w.heap.size ≤ w1.heap.size) (k : Nxt w1 T U) : Nxt w S U := fun x hx => by
  rcases k x hx with h1 | h1
  · exact h x h1
  · exact .inr (by omega)
def NotP (P : Nat → Prop) (k : Nat) : Prop := ¬ P k
/-- None of its blocks is in P; P's blocks are there. -/
def At {σ : Type} (I : World → Nat → (Nat → Prop) → σ → Prop) (P : Nat → Prop) (w : World) (p : Nat) (s : σ) : Prop :=
  (∃ S, I w p S s ∧ ∀ k, S k → ¬ P k) ∧ ∀ k, P k → k < w.heap.size

theorem fp_below {P : Nat → Prop} {w w' w0 : World} {B : Nat} (hb : Below B w0 w) (hB : B ≤ w.heap.size) (hP : ∀ k, k < B → P k) (F : Fr (NotP P) w w') : Below B w0 w' :=
  Fr.under hb hB F (fun k hk _ => by
    rcases Nat.lt_or_ge k B with h | h
    · exact absurd (hP k h) hk
    · exact h)
section
variable {σ : Type} {I : World → Nat → (Nat → Prop) → σ → Prop} (ok : ObjOk I) {P Q : Nat → Prop} {w w' : World} {p : Nat} {s : σ}
include ok
theorem At.fr {T : Nat → Prop} (h : At I P w p s) (F : Fr T w w') (hT : ∀ k, k < w.heap.size → T k → P k) : At I P w' p s := by
  obtain ⟨⟨S, hI, hn⟩, hlt⟩ := h
  refine ⟨⟨S, ok.fr (T := fun k => T k ∧ k < w.heap.size) hI ⟨F.os, F.tape, F.output, F.size, fun k hk hs => F.block k hk (fun x => hs ⟨x, hk⟩)⟩ (fun k hk e => hn k hk (hT k e.2 e.1)), hn⟩, fun k hk => by have := hlt k hk; have := F.size; omega⟩
theorem At.below (h : At I P w p s) (b : Below w.heap.size w w') : At I P w' p s := h.fr ok (Fr.of_below b NoS) (fun _ _ x => x.elim)
theorem At.alloc (h : At I P w p s) (o : Obj) : At I P (w.alloc o) p s := h.below ok ((Below.refl _ w).alloc (Nat.le_refl _) o)
theorem At.still (h : At I P w p s) (b : Still w w') : At I P w' p s := h.below ok b.below
/-- New blocks may be guarded too. -/
theorem At.widen (h : At I P w p s) (hQ : ∀ k, Q k → P k ∨ w.heap.size ≤ k) (b : Below w.heap.size w w') (hl : ∀ k, Q k → k < w'.heap.size) : At I Q w' p s := by
  have hs := h.below ok b
  obtain ⟨⟨S, hI, hn⟩, hlt⟩ := h
  exact ⟨⟨S, ok.fr hI (Fr.of_below b NoS) (fun _ _ x => x), fun k hk hq => by
    rcases hQ k hq with h1 | h1
    · exact hn k hk h1
    · have := ok.lt hI k hk; omega⟩, hl⟩
/-- New blocks may be guarded too: behind a write into P's blocks, and new ones. -/
theorem At.widenF {T : Nat → Prop} (h : At I P w p s) (F : Fr T w w') (hT : ∀ k, k < w.heap.size → T k → P k) (hQ : ∀ k, Q k → P k ∨ w.heap.size ≤ k) (hl : ∀ k, Q k → k < w'.heap.size) : At I Q w' p s := by
  obtain ⟨⟨S, hI, hn⟩, hlt⟩ := h
  refine ⟨⟨S, ok.fr (T := fun k => T k ∧ k < w.heap.size) hI ⟨F.os, F.tape, F.output, F.size, fun k hk hs => F.block k hk (fun x => hs ⟨x, hk⟩)⟩ (fun k hk e => hn k hk (hT k e.2 e.1)), fun k hk hq => ?_⟩, hl⟩
  rcases hQ k hq with h1 | h1
  · exact hn k hk h1
  · have := ok.lt hI k hk; omega
omit ok in
theorem At.narrow (h : At I P w p s) (hQ : ∀ k, Q k → P k) : At I Q w p s := by
  obtain ⟨⟨S, hI, hn⟩, hlt⟩ := h
  exact ⟨⟨S, hI, fun k hk hq => hn k hk (hQ k hq)⟩, fun k hk => hlt k (hQ k hk)⟩
omit ok in
theorem At.step {S S' : Nat → Prop} {s' : σ} (hn : ∀ k, S k → ¬ P k) (hlt : ∀ k, P k → k < w.heap.size) (I' : I w' p S' s') (F : Fr S w w') (N : Nxt w S S') : At I P w' p s' ∧ Fr (NotP P) w w' := by
  refine ⟨⟨⟨S', I', fun k hk hp => ?_⟩, fun k hk => by have := hlt k hk; have := F.size; omega⟩, F.mono (fun k hk _ => hn k hk)⟩
  rcases N k hk with h1 | h1
  · exact hn k h1 hp
  · have := hlt k hp; omega
omit ok in
theorem At.new {S : Nat → Prop} (hP : ∀ k, P k → k < w.heap.size) (I' : I w' p S s) (b : Below w.heap.size w w') (hS : ∀ k, S k → w.heap.size ≤ k) : At I P w' p s :=
  ⟨⟨S, I', fun k hk hp => by have := hP k hp; have := hS k hk; omega⟩, fun k hk => by have := hP k hk; have := b.size; omega⟩
end

/-- Two objects, apart from one another and from P's blocks. -/
def Two {σ τ : Type} (I : World → Nat → (Nat → Prop) → σ → Prop) (J : World → Nat → (Nat → Prop) → τ → Prop) (P : Nat → Prop) (w : World) (p : Nat) (s : σ) (q : Nat) (t : τ) : Prop :=
  ∃ S T, I w p S s ∧ J w q T t ∧ (∀ k, S k → ¬ P k ∧ ¬ T k) ∧ (∀ k, T k → ¬ P k) ∧ ∀ k, P k → k < w.heap.size
section
variable {σ τ : Type} {I : World → Nat → (Nat → Prop) → σ → Prop} {J : World → Nat → (Nat → Prop) → τ → Prop} (oi : ObjOk I) (oj : ObjOk J) {P Q : Nat → Prop} {w w' : World} {p q : Nat} {s : σ} {t : τ}
theorem Two.swap (h : Two I J P w p s q t) : Two J I P w q t p s := by
  obtain ⟨S, T, h1, h2, h3, h4, h5⟩ := h
  exact ⟨T, S, h2, h1, fun k hk => ⟨h4 k hk, fun hs => (h3 k hs).2 hk⟩, fun k hk => (h3 k hk).1, h5⟩
include oj in
theorem Two.left (h : Two I J P w p s q t) : ∃ R : Nat → Prop, At I R w p s ∧ (∀ k, P k → R k) ∧ ∀ w' s', At I R w' p s' → Fr (NotP R) w w' → Two I J P w' p s' q t := by
  obtain ⟨S, T, h1, h2, h3, h4, h5⟩ := h
  refine ⟨fun k => P k ∨ T k, ⟨⟨S, h1, fun k hk hq => ?_⟩, fun k hk => ?_⟩, fun k hk => .inl hk, fun w' s' hs' F => ?_⟩
  · rcases hq with hq | hq
    · exact (h3 k hk).1 hq
    · exact (h3 k hk).2 hq
  · rcases hk with hk | hk
    · exact h5 k hk
    · exact oj.lt h2 k hk
  · obtain ⟨⟨S', I', n'⟩, _⟩ := hs'
    exact ⟨S', T, I', oj.fr h2 F (fun k hk hn => hn (.inr hk)), fun k hk => ⟨fun hp => n' k hk (.inl hp), fun hq => n' k hk (.inr hq)⟩, h4, fun k hk => by have := h5 k hk; have := F.size; omega⟩
include oi in
theorem Two.right (h : Two I J P w p s q t) : ∃ R : Nat → Prop, At J R w q t ∧ (∀ k, P k → R k) ∧ ∀ w' t', At J R w' q t' → Fr (NotP R) w w' → Two I J P w' p s q t' := by
  obtain ⟨R, h1, h2, h3⟩ := h.swap.left oi
  exact ⟨R, h1, h2, fun w' t' h4 F => (h3 w' t' h4 F).swap⟩
include oi oj
/-- A write into blocks of P. -/
theorem Two.fr {T : Nat → Prop} (h : Two I J P w p s q t) (F : Fr T w w') (hT : ∀ k, k < w.heap.size → T k → P k) : Two I J P w' p s q t := by
  obtain ⟨S, U, h1, h2, h3, h4, h5⟩ := h
  have F' : Fr (fun k => T k ∧ k < w.heap.size) w w' := ⟨F.os, F.tape, F.output, F.size, fun k hk hs => F.block k hk (fun x => hs ⟨x, hk⟩)⟩
  exact ⟨S, U, oi.fr h1 F' (fun k hk e => (h3 k hk).1 (hT k e.2 e.1)), oj.fr h2 F' (fun k hk e => h4 k hk (hT k e.2 e.1)), h3, h4, fun k hk => by have := h5 k hk; have := F.size; omega⟩
theorem Two.below (h : Two I J P w p s q t) (b : Below w.heap.size w w') : Two I J P w' p s q t := h.fr oi oj (Fr.of_below b NoS) (fun _ _ x => x.elim)
theorem Two.still (h : Two I J P w p s q t) (b : Still w w') : Two I J P w' p s q t := h.below oi oj b.below
theorem Two.alloc (h : Two I J P w p s q t) (o : Obj) : Two I J P (w.alloc o) p s q t := h.below oi oj ((Below.refl _ w).alloc (Nat.le_refl _) o)
/-- New blocks may be guarded too: behind a write into P's blocks, and new ones. -/
theorem Two.widenF {T : Nat → Prop} (h : Two I J P w p s q t) (F : Fr T w w') (hT : ∀ k, k < w.heap.size → T k → P k) (hQ : ∀ k, Q k → P k ∨ w.heap.size ≤ k) (hl : ∀ k, Q k → k < w'.heap.size) : Two I J Q w' p s q t := by
  have h' := h.fr oi oj F hT
  obtain ⟨S, U, h1, h2, h3, h4, h5⟩ := h
  have F' : Fr (fun k => T k ∧ k < w.heap.size) w w' := ⟨F.os, F.tape, F.output, F.size, fun k hk hs => F.block k hk (fun x => hs ⟨x, hk⟩)⟩
  refine ⟨S, U, oi.fr h1 F' (fun k hk e => (h3 k hk).1 (hT k e.2 e.1)), oj.fr h2 F' (fun k hk e => h4 k hk (hT k e.2 e.1)), fun k hk => ⟨fun hq => ?_, (h3 k hk).2⟩, fun k hk hq => ?_, hl⟩
  · rcases hQ k hq with e | e
    · exact (h3 k hk).1 e
    · have := oi.lt h1 k hk; omega
  · rcases hQ k hq with e | e
    · exact h4 k hk e
    · have := oj.lt h2 k hk; omega
theorem Two.widen (h : Two I J P w p s q t) (hQ : ∀ k, Q k → P k ∨ w.heap.size ≤ k) (b : Below w.heap.size w w') (hl : ∀ k, Q k → k < w'.heap.size) : Two I J Q w' p s q t := h.widenF oi oj (Fr.of_below b NoS) (fun _ _ x => x.elim) hQ hl
omit oj in
/-- A new one beside another. -/
theorem Two.new {T : Nat → Prop} (h : At I P w p s) (J' : J w' q T t) (b : Below w.heap.size w w') (hT : ∀ k, T k → w.heap.size ≤ k) : Two I J P w' p s q t := by
  obtain ⟨⟨S, hI, hn⟩, hlt⟩ := h
  exact ⟨S, T, oi.fr hI (Fr.of_below b NoS) (fun _ _ x => x), J', fun k hk => ⟨hn k hk, fun ht => by have := oi.lt hI k hk; have := hT k ht; omega⟩, fun k hk hp => by have := hlt k hp; have := hT k hk; omega, fun k hk => by have := hlt k hk; have := b.size; omega⟩
omit oi oj in
theorem Two.fst (h : Two I J P w p s q t) : At I P w p s := by
  obtain ⟨S, U, h1, h2, h3, h4, h5⟩ := h
  exact ⟨⟨S, h1, fun k hk => (h3 k hk).1⟩, h5⟩
omit oi oj in
theorem Two.snd (h : Two I J P w p s q t) : At J P w q t := h.swap.fst
end
end Go.Proofs.YtdldipkbknhhoaaDoor

/- table: which fields came, how many are gone: what each call makes of them, in plain words. Nothing of the program. -/
namespace Go.Proofs.YtdldipkbknhhoaaDoor

structure Fd where
  name : ByteArray
  value : ByteArray
deriving DecidableEq
def Fd.size (f : Fd) : Nat := f.name.size + f.value.size + 32
def tsum (l : List Fd) : Nat := (l.map Fd.size).sum
@[simp] theorem tsum_nil : tsum [] = 0 := rfl
@[simp] theorem tsum_cons (f : Fd) (l : List Fd) : tsum (f :: l) = f.size + tsum l := by simp [tsum]
theorem tsum_append (l m : List Fd) : tsum (l ++ m) = tsum l + tsum m := by simp [tsum]
theorem tsum_snoc (l : List Fd) (f : Fd) : tsum (l ++ [f]) = tsum l + f.size := by rw [tsum_append]; simp
theorem tsum_drop_le (l : List Fd) (k : Nat) : tsum (l.drop k) ≤ tsum l := by
  have := congrArg tsum (List.take_append_drop k l)
  rw [tsum_append] at this; omega
theorem tsum_anti (l : List Fd) {j k : Nat} (h : j ≤ k) : tsum (l.drop k) ≤ tsum (l.drop j) := by
  have := tsum_drop_le (l.drop j) (k - j)
  rwa [List.drop_drop, show j + (k - j) = k by omega] at this
theorem tsum_len (l : List Fd) : l.length * 32 ≤ tsum l := by
  induction l with
  | nil => simp
  | cons f l ih => rw [tsum_cons, List.length_cons, Nat.succ_mul]; unfold Fd.size; omega
theorem tsum_drop_one (l : List Fd) (k : Nat) (f : Fd) (h : l[k]? = some f) : tsum (l.drop k) = f.size + tsum (l.drop (k + 1)) := by
  obtain ⟨hk, e⟩ := List.getElem?_eq_some_iff.1 h
  rw [List.drop_eq_getElem_cons hk, tsum_cons, e]
/-- How many go, till the others have room. -/
def tcut (room : Nat) : List Fd → Nat
  | [] => 0
  | f :: l => if room < tsum (f :: l) then tcut room l + 1 else 0
theorem tcut_le (r : Nat) : ∀ l : List Fd, tcut r l ≤ l.length
  | [] => Nat.le_refl _
  | f :: l => by
    unfold tcut
    split
    · have := tcut_le r l; simp; omega
    · omega
theorem tcut_sum (r : Nat) : ∀ l : List Fd, tsum (l.drop (tcut r l)) ≤ r
  | [] => by simp
  | f :: l => by
    unfold tcut
    split
    · exact tcut_sum r l
    · simp only [List.drop_zero]; omega
theorem tcut_min (r : Nat) : ∀ (l : List Fd) (k : Nat), k < tcut r l → r < tsum (l.drop k)
  | [], k, h => by simp [tcut] at h
  | f :: l, k, h => by
    unfold tcut at h
    split at h
    · rename_i hr
      cases k with
      | zero => exact hr
      | succ k => exact tcut_min r l k (by omega)
    · omega
theorem tcut_eq (r : Nat) (l : List Fd) (k : Nat) (hk : k ≤ l.length) (h1 : tsum (l.drop k) ≤ r) (h2 : ∀ j, j < k → r < tsum (l.drop j)) : tcut r l = k := by
  rcases Nat.lt_trichotomy (tcut r l) k with h | h | h
  · have := h2 _ h; have := tcut_sum r l; omega
  · exact h
  · have := tcut_min r l k h; omega
theorem tcut_step (r : Nat) (l : List Fd) (h : r < tsum l) : ∃ f m, l = f :: m ∧ tcut r l = tcut r m + 1 := by
  cases l with
  | nil => simp at h
  | cons f m => exact ⟨f, m, rfl, by rw [tcut, if_pos h]⟩
theorem tcut_stop (r : Nat) (l : List Fd) (h : tsum l ≤ r) : tcut r l = 0 := by
  cases l with
  | nil => rfl
  | cons f m => rw [tcut, if_neg (by omega)]

structure Tb where
  most : Nat
  F : List Fd
  gone : Nat
def tnew (most : Nat) : Tb := ⟨most, [], 0⟩
def Tb.l (t : Tb) : List Fd := t.F.drop t.gone
def Tb.used (t : Tb) : Nat := tsum t.l
def Tb.ins (t : Tb) (f : Fd) : Tb := if f.size ≤ t.most then ⟨t.most, t.F ++ [f], t.gone + tcut (t.most - f.size) t.l⟩ else t
structure Tb.Ok (t : Tb) : Prop where
  le : t.gone ≤ t.F.length
  used : t.used ≤ t.most
  full : t.gone = 0 ∨ t.most < tsum (t.F.drop (t.gone - 1))
theorem tnew_ok (m : Nat) : (tnew m).Ok := ⟨Nat.le_refl _, by simp [tnew, Tb.used, Tb.l], .inl rfl⟩
theorem Tb.l_len (t : Tb) (h : t.Ok) : t.l.length = t.F.length - t.gone := by simp [Tb.l]
theorem Tb.len_add (t : Tb) (h : t.Ok) : t.gone + t.l.length = t.F.length := by rw [t.l_len h]; have := h.le; omega
theorem Tb.ins_no (t : Tb) (f : Fd) (h : t.most < f.size) : t.ins f = t := by unfold Tb.ins; rw [if_neg (by omega)]
theorem Tb.ins_yes (t : Tb) (f : Fd) (h : f.size ≤ t.most) : t.ins f = ⟨t.most, t.F ++ [f], t.gone + tcut (t.most - f.size) t.l⟩ := by unfold Tb.ins; rw [if_pos h]
theorem Tb.ins_most (t : Tb) (f : Fd) : (t.ins f).most = t.most := by unfold Tb.ins; split <;> rfl
theorem Tb.ins_l (t : Tb) (f : Fd) (ho : t.Ok) (h : f.size ≤ t.most) : (t.ins f).l = t.l.drop (tcut (t.most - f.size) t.l) ++ [f] := by
  have h1 := tcut_le (t.most - f.size) t.l
  have h2 := t.l_len ho
  have h3 := ho.le
  rw [t.ins_yes f h]
  show List.drop (t.gone + tcut (t.most - f.size) t.l) (t.F ++ [f]) = _
  rw [List.drop_append_of_le_length (by omega), ← List.drop_drop]
  rfl
theorem Tb.ins_used (t : Tb) (f : Fd) (ho : t.Ok) (h : f.size ≤ t.most) : (t.ins f).used = tsum (t.l.drop (tcut (t.most - f.size) t.l)) + f.size := by
  unfold Tb.used; rw [t.ins_l f ho h, tsum_snoc]
theorem Tb.ins_ok (t : Tb) (f : Fd) (ho : t.Ok) : (t.ins f).Ok := by
  rcases Nat.lt_or_ge t.most f.size with h | h
  · rw [t.ins_no f h]; exact ho
  · have h1 := tcut_le (t.most - f.size) t.l
    have h2 := t.l_len ho
    have h3 := ho.le
    refine ⟨?_, ?_, ?_⟩
    · rw [t.ins_yes f h]
      show t.gone + tcut (t.most - f.size) t.l ≤ (t.F ++ [f]).length
      rw [List.length_append, List.length_singleton]; omega
    · rw [t.ins_used f ho h, t.ins_most]
      have := tcut_sum (t.most - f.size) t.l; omega
    · rw [t.ins_yes f h]
      simp only
      rcases Nat.eq_zero_or_pos (t.gone + tcut (t.most - f.size) t.l) with h0 | h0
      · exact .inl h0
      · right
        rw [List.drop_append_of_le_length (by omega), tsum_snoc]
        rcases Nat.eq_zero_or_pos (tcut (t.most - f.size) t.l) with h4 | h4
        · rw [h4, Nat.add_zero]
          rcases ho.full with h5 | h5
          · omega
          · omega
        · have := tcut_min (t.most - f.size) t.l (tcut (t.most - f.size) t.l - 1) (by omega)
          unfold Tb.l at this h4 ⊢
          rw [List.drop_drop, show t.gone + (tcut (t.most - f.size) (List.drop t.gone t.F) - 1) = t.gone + tcut (t.most - f.size) (List.drop t.gone t.F) - 1 by omega] at this
          omega
/-- What is there is as much of the newest as fits. -/
theorem Tb.Ok.newest {t : Tb} (h : t.Ok) (n : Nat) (hn : n ≤ t.F.length) (h1 : tsum (t.F.drop n) ≤ t.most) (h2 : n = 0 ∨ t.most < tsum (t.F.drop (n - 1))) : n = t.gone := by
  have hu := h.used
  unfold Tb.used Tb.l at hu
  rcases Nat.lt_trichotomy n t.gone with h3 | h3 | h3
  · rcases h.full with h4 | h4
    · omega
    · have := tsum_anti t.F (show n ≤ t.gone - 1 by omega); omega
  · exact h3
  · rcases h2 with h4 | h4
    · omega
    · have := tsum_anti t.F (show t.gone ≤ n - 1 by omega); omega

def Tb.get (t : Tb) (n : Nat) : Option Fd := if t.gone ≤ n then t.F[n]? else none
/-- The fields from the last one on, with their places. -/
def bk (l : List Fd) : Nat → List (Nat × Fd)
  | 0 => []
  | k + 1 => (k, l.getD k ⟨.empty, .empty⟩) :: bk l k
def Tb.find (t : Tb) (f : Fd) : Nat × Bool × Bool :=
  match (bk t.l t.l.length).find? (fun x => decide (x.2 = f)) with
  | some x => (t.gone + x.1, true, true)
  | none => match (bk t.l t.l.length).find? (fun x => decide (x.2.name = f.name)) with
    | some x => (t.gone + x.1, true, false)
    | none => (0, false, false)
theorem bk_find_some {l : List Fd} {q : Nat × Fd → Bool} : ∀ {k : Nat} {x : Nat × Fd}, (bk l k).find? q = some x → x.1 < k ∧ q x = true ∧ x.2 = l.getD x.1 ⟨.empty, .empty⟩ ∧ ∀ i, x.1 < i → i < k → q (i, l.getD i ⟨.empty, .empty⟩) = false
  | 0, x, h => by simp [bk] at h
  | k + 1, x, h => by
    rw [bk, List.find?_cons] at h
    split at h
    · rename_i hq
      injection h with h
      subst h
      exact ⟨Nat.lt_succ_self k, hq, rfl, fun i h1 h2 => by simp only at h1; omega⟩
    · rename_i hq
      obtain ⟨h1, h2, h3, h4⟩ := bk_find_some h
      refine ⟨by omega, h2, h3, fun i h5 h6 => ?_⟩
      by_cases hi : i = k
      · subst hi; simpa using hq
      · exact h4 i h5 (by omega)
theorem bk_find_none {l : List Fd} {q : Nat × Fd → Bool} : ∀ {k : Nat}, (bk l k).find? q = none → ∀ i, i < k → q (i, l.getD i ⟨.empty, .empty⟩) = false
  | 0, _, i, h => by omega
  | k + 1, h, i, hi => by
    rw [bk, List.find?_cons] at h
    split at h
    · cases h
    · rename_i hq
      by_cases hk : i = k
      · subst hk; simpa using hq
      · exact bk_find_none h i (by omega)
theorem bk_find_is {l : List Fd} {q : Nat × Fd → Bool} {k j : Nat} (h1 : j < k) (h2 : q (j, l.getD j ⟨.empty, .empty⟩) = true) (h3 : ∀ i, j < i → i < k → q (i, l.getD i ⟨.empty, .empty⟩) = false) : (bk l k).find? q = some (j, l.getD j ⟨.empty, .empty⟩) := by
  cases h : (bk l k).find? q with
  | none => rw [bk_find_none h j h1] at h2; cases h2
  | some x =>
    obtain ⟨a1, a2, a3, a4⟩ := bk_find_some h
    have : x.1 = j := by
      rcases Nat.lt_trichotomy x.1 j with h5 | h5 | h5
      · rw [a4 j h5 h1] at h2; cases h2
      · exact h5
      · have hx := h3 x.1 h5 a1
        rw [← a3] at hx
        rw [show (x.1, x.2) = x from rfl, a2] at hx; cases hx
    obtain ⟨x1, x2⟩ := x
    simp only at this a3
    subst this
    rw [a3]
theorem bk_find_no {l : List Fd} {q : Nat × Fd → Bool} {k : Nat} (h : ∀ i, i < k → q (i, l.getD i ⟨.empty, .empty⟩) = false) : (bk l k).find? q = none := by
  cases hf : (bk l k).find? q with
  | none => rfl
  | some x =>
    obtain ⟨a1, a2, a3, a4⟩ := bk_find_some hf
    have := h x.1 a1
    rw [← a3] at this
    rw [show (x.1, x.2) = x from rfl, a2] at this; cases this
theorem bk_len (l : List Fd) (k : Nat) : (bk l k).length = k := by
  induction k with
  | zero => rfl
  | succ k ih => simp [bk, ih]
end Go.Proofs.YtdldipkbknhhoaaDoor

/- Rows of records: copy into an own row; append of zero values; more of a row's room. Nothing of the program. -/
namespace Go.Proofs.YtdldipkbknhhoaaDoor
open Go.RowKit

section
variable {P : Program} {base : Nat} {e : TypeId} {size n g cap : Nat}

/-- One more element of a row's room. -/
theorem own_more {w : World} {xs : List Value} {m : Nat} (h : w.ownsRow base e size (.slice (some ⟨g, 0, none⟩) n cap) n xs) (hm : n + m ≤ cap) :
    ∃ zs, zs.length = m * size ∧ w.ownsRow base e size (.slice (some ⟨g, 0, none⟩) (n + m) cap) (n + m) (xs ++ zs) := by
  have hl := h.1
  rcases h.2 with ⟨h', _⟩ | ⟨g', cap', cur, h', hb, hg, hnc, hcm, hcs, htake⟩
  · simp at h'
  · simp only [Value.slice.injEq, Option.some.injEq, Addr.mk.injEq, and_true, true_and] at h'
    obtain ⟨rfl, rfl⟩ := h'
    have hle : (n + m) * size ≤ cap * size := Nat.mul_le_mul_right _ hm
    have hle2 : n * size ≤ (n + m) * size := Nat.mul_le_mul_right _ (by omega)
    have he : (cur.toList.take ((n + m) * size)) = xs ++ (cur.toList.take ((n + m) * size)).drop (n * size) := by
      conv => lhs; rw [← List.take_append_drop (n * size) (cur.toList.take ((n + m) * size))]
      congr 1
      rw [List.take_take, Nat.min_eq_left hle2, htake]
    have hz : ((cur.toList.take ((n + m) * size)).drop (n * size)).length = m * size := by
      rw [List.length_drop, List.length_take, Array.length_toList, hcs, Nat.min_eq_left hle, Nat.add_mul]; omega
    refine ⟨_, hz, ?_, .inr ⟨g, cap, cur, rfl, hb, hg, hm, hcm, hcs, he⟩⟩
    rw [List.length_append, hl, hz, Nat.add_mul]

theorem run_copy_recs (w : World) (dT sT ty elem : TypeId) (b o dLen dCap : Nat) (a : Addr) (sLen sCap m : Nat) (cs : List Value)
    (hu : P.underlying dT = some (.slice elem)) (hs : (P.info? elem).map (·.size) = some size) (hm : m = Nat.min sLen dLen) (hn : cs.length = m * size)
    (hsrc : ∀ j v, cs[j]? = some v → w.cell? (a.add j) = some v) (hc : ∀ j, j < cs.length → (w.cell? ⟨b, o + j, none⟩).isSome = true) (hf : ∀ j, j < cs.length → w.frozen? ⟨b, o + j, none⟩ = false) (h1 : ∀ v ∈ cs, v.oneCell' = true) :
    (Builtin.copy_ #[dT, sT] ty #[.slice (some ⟨b, o, none⟩) dLen dCap, .slice (some a) sLen sCap]).run P w = .ok (goInt m) (w.setCells b o cs) := by
  have hl := run_loadCells_list (P := P) w a cs hsrc
  have hst := run_storeCells_cells (P := P) b o cs 0 w (by simpa using hc) (by simpa using hf) h1
  rw [hn] at hl
  cases hq : P.info? elem with
  | none => simp [hq] at hs
  | some i =>
    have hi : i.size = size := by simpa [hq] using hs
    simp [Builtin.copy_, run_underlying hu, Builtin.lenOf, Builtin.firstCells, sizeOf, typeInfo, hq, hi, ← hm, hl, hst]

theorem run_copyS {w : World} {xs : List Value} (hown : w.ownsRow base e size (.slice (some ⟨g, 0, none⟩) n cap) n xs) (dT sT ty : TypeId) (o dLen dCap : Nat) (a : Addr) (sLen sCap m : Nat) (cs : List Value)
    (hu : P.underlying dT = some (.slice e)) (hs : (P.info? e).map (·.size) = some size) (hm : m = Nat.min sLen dLen) (hn : cs.length = m * size)
    (hsrc : ∀ j v, cs[j]? = some v → w.cell? (a.add j) = some v) (hfit : o + cs.length ≤ xs.length) (h1 : ∀ v ∈ cs, v.oneCell' = true) :
    ∃ w', (Builtin.copy_ #[dT, sT] ty #[.slice (some ⟨g, o, none⟩) dLen dCap, .slice (some a) sLen sCap]).run P w = .ok (goInt m) w' ∧
      w'.ownsRow base e size (.slice (some ⟨g, 0, none⟩) n cap) n (xs.take o ++ cs ++ xs.drop (o + cs.length)) ∧ Fr (fun k => k = g) w w' := by
  have h2 := own_setCells cs o w xs hown hfit
  have hl := hown.1
  refine ⟨_, run_copy_recs w dT sT ty e g o dLen dCap a sLen sCap m cs hu hs hm hn hsrc (fun j hj => ?_) (fun j _ => hown.frozenAt _) h1, h2.1, h2.2⟩
  rw [hown.cellAt _ (by omega), List.getElem?_eq_getElem (by omega)]; rfl

/-- 'copy(d, s)' into an own row of records, for the walk. -/
theorem wpList_copyS {w : World} {ops : Array Oper} {rest : List Oper} {op : Oper} {act : Act} {Q : Exit → Act → World → Prop} (hgd : op.guard = none) (d s : Operand) (dT sT : TypeId)
    (ho : op.op = .call { callee := .builtin .copy, args := #[d, s], argTypes := #[dT, sT] }) {xs : List Value} (hown : w.ownsRow base e size (.slice (some ⟨g, 0, none⟩) n cap) n xs) (o dLen dCap : Nat) (a : Addr) (sLen sCap m : Nat) (cs : List Value)
    (hd : act.eval d = .slice (some ⟨g, o, none⟩) dLen dCap) (hsv : act.eval s = .slice (some a) sLen sCap)
    (hu : P.underlying dT = some (.slice e)) (hs : (P.info? e).map (·.size) = some size) (hm : m = Nat.min sLen dLen) (hn : cs.length = m * size)
    (hsrc : ∀ j v, cs[j]? = some v → w.cell? (a.add j) = some v) (hfit : o + cs.length ≤ xs.length) (h1 : ∀ v ∈ cs, v.oneCell' = true)
    (h : ∀ w', w'.ownsRow base e size (.slice (some ⟨g, 0, none⟩) n cap) n (xs.take o ++ cs ++ xs.drop (o + cs.length)) → Fr (fun k => k = g) w w' → wpList P ops Q rest (act.put op.dst (goInt m)) w') : wpList P ops Q (op :: rest) act w := by
  obtain ⟨w', hrun, h2, h3⟩ := run_copyS (P := P) hown dT sT op.type o dLen dCap a sLen sCap m cs hu hs hm hn hsrc hfit h1
  refine wpList_plain hgd fun K hK => ?_
  unfold Oper.wp
  simp only [execOp, ho, resolve, invoke, builtin, Sem.run_bind, Sem.run_pure, Result.andThen_ok, List.map_toArray, List.map_cons, List.map_nil, hd, hsv, hrun]
  exact hK _ _ (h w' h2 h3)
/-- The same as one step of a region that draws. -/
theorem step_copyS {w : World} {ops : Array Oper} {op : Oper} {act : Act} {K : Act → World → Prop} {Q : Exit → Act → World → Prop} {E : Prop} (hgd : op.guard = none) (d s : Operand) (dT sT : TypeId)
    (ho : op.op = .call { callee := .builtin .copy, args := #[d, s], argTypes := #[dT, sT] }) {xs : List Value} (hown : w.ownsRow base e size (.slice (some ⟨g, 0, none⟩) n cap) n xs) (o dLen dCap : Nat) (a : Addr) (sLen sCap m : Nat) (cs : List Value)
    (hd : act.eval d = .slice (some ⟨g, o, none⟩) dLen dCap) (hsv : act.eval s = .slice (some a) sLen sCap)
    (hu : P.underlying dT = some (.slice e)) (hs : (P.info? e).map (·.size) = some size) (hm : m = Nat.min sLen dLen) (hn : cs.length = m * size)
    (hsrc : ∀ j v, cs[j]? = some v → w.cell? (a.add j) = some v) (hfit : o + cs.length ≤ xs.length) (h1 : ∀ v ∈ cs, v.oneCell' = true)
    (h : ∀ w', w'.ownsRow base e size (.slice (some ⟨g, 0, none⟩) n cap) n (xs.take o ++ cs ++ xs.drop (o + cs.length)) → Fr (fun k => k = g) w w' → K (act.put op.dst (goInt m)) w') :
    if Region.wanted op (yielded ops act.tmps) = true then Oper.wp P op act w K Q else E := by
  have hw : Region.wanted op (yielded ops act.tmps) = true := by simp [Region.wanted, hgd]
  rw [if_pos hw]
  obtain ⟨w', hrun, h2, h3⟩ := run_copyS (P := P) hown dT sT op.type o dLen dCap a sLen sCap m cs hu hs hm hn hsrc hfit h1
  unfold Oper.wp
  simp only [execOp, ho, resolve, invoke, builtin, Sem.run_bind, Sem.run_pure, Result.andThen_ok, List.map_toArray, List.map_cons, List.map_nil, hd, hsv, hrun]
  exact h w' h2 h3

/-- 'append(s, make([]T, k)...)' where there is no room for k more. -/
theorem wpList_appZ {w : World} {ops : Array Oper} {rest : List Oper} {op : Oper} {act : Act} {Q : Exit → Act → World → Prop} (hgd : op.guard = none) (s x : Operand) (t tn : TypeId)
    (ho : op.op = .call { callee := .builtin .append, args := #[s, x], argTypes := #[t, tn] }) (z : Value) (bytes : Nat) (hinfo : (P.info? e).map (fun i => (i.zero, i.size, i.bytes)) = some (some z, size, bytes))
    (ht : P.underlying t = some (.slice e)) (htn : P.underlying tn = some (.int .i64)) (hzs : z.cells.size = size) (hsz : 0 < size)
    {xs : List Value} (hown : w.ownsRow base e size (.slice (some ⟨g, 0, none⟩) n cap) n xs) (k : Nat) (hs : act.eval s = .slice (some ⟨g, 0, none⟩) n cap) (hx : act.eval x = .int .i64 k) (h0 : 0 < k) (hg : cap < n + k)
    (h63 : n + k ≤ maxLen) (hbytes : (n + k) * bytes ≤ 140737488355328)
    (h : ∀ c' zs w', zs.length = k * size → w'.ownsRow w.heap.size e size (.slice (some ⟨w.heap.size, 0, none⟩) (n + k) c') (n + k) (xs ++ zs) → Below w.heap.size w w' → wpList P ops Q rest (act.put op.dst (.slice (some ⟨w.heap.size, 0, none⟩) (n + k) c')) w') : wpList P ops Q (op :: rest) act w := by
  obtain ⟨i, hi, hz, hsize, hby⟩ := info_parts hinfo
  have holds : ∀ j u, xs[j]? = some u → w.drew.cell? ((⟨g, 0, none⟩ : Addr).add j) = some u := hown.cells (g := g) rfl
  have hold : (Builtin.firstCells i.size n (.slice (some ⟨g, 0, none⟩) n cap)).run P w.drew = .ok xs.toArray w.drew := by
    have := run_loadCells_list (P := P) w.drew ⟨g, 0, none⟩ xs holds
    rw [hown.1] at this
    simp only [Builtin.firstCells, hsize, this]
  have hrun := Lib.run_append_grow_zeros (P := P) w t tn op.type e i z .i64 .i64 ht htn hi hz (some ⟨g, 0, none⟩) n cap xs hold k h0 (by omega) hg (by simp only [maxLen] at h63; omega) (by
    have : k * bytes ≤ (n + k) * bytes := Nat.mul_le_mul_right _ (by omega)
    rw [hby]; omega) (by rw [hby]; exact growslice_fits hg hbytes)
  have hge := grownCap_ge w (n + k) cap e
  have hcm : grownCap w (n + k) cap e ≤ maxLen := grownCap_le_maxLen w (n + k) cap e h63
  refine wpList_plain hgd fun K hK => ?_
  unfold Oper.wp
  simp only [execOp, ho, resolve, invoke, builtin, Sem.run_bind, Sem.run_pure, Result.andThen_ok, List.map_toArray, List.map_cons, List.map_nil, hs, hx, hrun]
  have hzl : (Builtin.zeroCells z.cells k).toList.length = k * size := by simp [size_zeroCells, hzs]
  refine hK _ _ (h _ (Builtin.zeroCells z.cells k).toList _ hzl ?_ (Fr.below (((Fr.refl NoS w).drew).alloc _)))
  refine ⟨by rw [List.length_append, hown.1, hzl, Nat.add_mul], .inr ⟨w.heap.size, _, _, rfl, Nat.le_refl _, heap_alloc_new w.drew _, hge, hcm, ?_, ?_⟩⟩
  · simp only [Array.size_append, List.size_toArray, size_zeroCells, hzs, hown.1, ← Nat.add_mul]
    congr 1
    omega
  · simp only [Array.toList_append]
    refine List.take_left' ?_
    rw [List.length_append, hzl, Nat.add_mul]
    show xs.length + _ = _
    rw [hown.1]
end
end Go.Proofs.YtdldipkbknhhoaaDoor

/- Fields: their cells; SameFields; the fixed ones. -/
namespace Go.Proofs.YtdldipkbknhhoaaDoor
open Go.RowKit

theorem infoF : (Tryd.prog.info? 47).map (fun i => (i.zero, i.size, i.bytes)) = some (some (.agg #[.string .empty, .string .empty]), 2, 32) := by kernel_rfl

def Fd.cells (f : Fd) : List Value := [.string f.name, .string f.value]
def Fd.agg (f : Fd) : Value := .agg #[.string f.name, .string f.value]
theorem fdc (f : Fd) : f.cells.length = 2 := rfl
theorem fdo (f : Fd) : ∀ u ∈ f.cells, u.oneCell' = true := by
  intro u hu; simp [Fd.cells] at hu; rcases hu with rfl | rfl <;> rfl
abbrev fdv (l : List Fd) : List Value := rv Fd.cells l
@[simp] theorem fdv_len (l : List Fd) : (fdv l).length = l.length * 2 := rv_length Fd.cells fdc l
theorem fdv_append (l m : List Fd) : fdv (l ++ m) = fdv l ++ fdv m := rv_append Fd.cells l m
theorem fdv_take (l : List Fd) (k : Nat) : fdv (l.take k) = (fdv l).take (k * 2) := rv_take Fd.cells fdc l k
theorem fdv_drop (l : List Fd) (k : Nat) : fdv (l.drop k) = (fdv l).drop (k * 2) := rv_drop Fd.cells fdc l k
theorem fdv_one (l : List Fd) : ∀ u ∈ fdv l, u.oneCell' = true := rv_one Fd.cells fdo l
theorem load_fd {W : World} {A : Option Addr} {l : List Fd} (hr : Rd W A (fdv l)) {k : Nat} (hk : k < l.length) :
    ∃ b off, A = some ⟨b, off, none⟩ ∧ W.cell? ⟨b, off + k * 2, none⟩ = some (.string (l[k]).name) ∧ W.cell? ⟨b, off + k * 2 + 1, none⟩ = some (.string (l[k]).value) := by
  obtain ⟨b, off, e, h⟩ := rv_cell Fd.cells fdc (by omega) hr hk
  exact ⟨b, off, e, h 0 _ rfl, h 1 _ rfl⟩
/-- 's[k:]' of a slice of records. -/
theorem Rd.dropS {w : World} {A : Option Addr} {xs : List Value} (h : Rd w A xs) {k len cap s : Nat} (hk : k ≤ len) (hc : len ≤ cap) (hl : xs.length = len * s) : Rd w (if cap = k then A else A.map (·.add (k * s))) (xs.drop (k * s)) := fun hn => by
  obtain ⟨b, off, e, hcell⟩ := h (by simp at hn; omega)
  have hlt : k < len := by
    rcases Nat.lt_or_ge k len with h1 | h1
    · exact h1
    · have : k = len := by omega
      subst this
      simp [hl] at hn
  rw [if_neg (by omega)]
  subst e
  refine ⟨b, off + k * s, by simp [WideShapes.add_plain], fun j u hu => ?_⟩
  rw [List.getElem?_drop] at hu
  rw [Nat.add_assoc]
  exact hcell _ u hu

/-- Block B is a row of cells. -/
def HasRow (W : World) (B : Nat) (t : TypeId) (cs : Array Value) : Prop := W.heap[B]? = some (.cells cs t (0, 0))
section
variable {W W' : World} {B B' : Nat} {t : TypeId} {cs : Array Value}
theorem HasRow.lt (h : HasRow W B t cs) : B < W.heap.size := heap_lt h
theorem HasRow.cell (h : HasRow W B t cs) (i : Nat) (v : Value) (hi : cs[i]? = some v) : W.cell? ⟨B, i, none⟩ = some v := wrote_cell h i v hi
theorem HasRow.frozen (h : HasRow W B t cs) (i : Nat) : W.frozen? ⟨B, i, none⟩ = false := frozen_of_row W B i _ _ h
theorem HasRow.new (W : World) (t : TypeId) (cs : Array Value) : HasRow (W.alloc (.cells cs t)) W.heap.size t cs := heap_alloc_new W _
theorem HasRow.fr {S : Nat → Prop} (h : HasRow W B t cs) (F : Fr S W W') (hS : ¬ S B) : HasRow W' B t cs := heap_fr h F hS
theorem HasRow.below (h : HasRow W B t cs) (b : Below W.heap.size W W') : HasRow W' B t cs := h.fr (Fr.of_below b NoS) (fun x => x)
theorem HasRow.alloc (h : HasRow W B t cs) (o : Obj) : HasRow (W.alloc o) B t cs := h.below ((Below.refl _ W).alloc (Nat.le_refl _) o)
theorem HasRow.set1 {v : Value} (h : HasRow W B t #[v]) (u : Value) : HasRow (W.setCell ⟨B, 0, none⟩ u) B t #[u] := heap_setCell_same W B 0 _ t u h
theorem HasRow.other (h : HasRow W B t cs) (hne : B ≠ B') (i : Nat) (u : Value) : HasRow (W.setCell ⟨B', i, none⟩ u) B t cs := h.fr ((Fr.refl (fun k => k = B') W).setCell (p := ⟨B', i, none⟩) (fun _ => rfl) u) hne
end

theorem ba_beq (u v : ByteArray) : (u == v) = decide (u = v) := by
  obtain ⟨u⟩ := u
  obtain ⟨v⟩ := v
  have e : ((⟨u⟩ : ByteArray) == ⟨v⟩) = (u == v) := rfl
  rw [e, Bool.eq_iff_iff, beq_iff_eq, decide_eq_true_eq]
  constructor
  · rintro rfl; rfl
  · intro h; injection h
theorem ba_ne {u v : ByteArray} (h : u ≠ v) : (u == v) = false := by rw [ba_beq, decide_eq_false h]
theorem ba_list_ne {u v : ByteArray} (h : u ≠ v) : (u.toList == v.toList) = false := by
  rw [beq_eq_false_iff_ne, ByteArray.toList_eq, ByteArray.toList_eq]
  intro e
  exact h (WideShapes.bytes_inj e)
set_option maxRecDepth 100000 in
set_option maxHeartbeats 2000000 in
theorem samef_any (l m : List Fd) (A1 A2 : Option Addr) (c1 c2 : Nat) (w : World) (h1 : Rd w A1 (fdv l)) (h2 : Rd w A2 (fdv m)) (hl : l.length ≤ 1000000) (hm : m.length ≤ 1000000) :
    Calls Tryd.prog 32 #[.slice A1 l.length c1, .slice A2 m.length c2] w fun e w' => e = .returned (.bool (decide (l = m))) ∧ ∃ k, w' = w.drewN k := by
  by_cases hlen : l.length = m.length
  · have hb : ((l.length : Int) != (m.length : Int)) = false := by rw [hlen]; simp
    go_enter Tryd.func32, Tryd.ntmps32
    have HL := Lib.hid hlen
    clear hlen
    go_wp2
    clear hb
    go_loopw [5] (fun i wr => ∃ k q : Nat, k ≤ l.length ∧ i = .int .i64 k ∧ wr = w.drewN q ∧ l.take k = m.take k) (fun i _ => l.length - (intOf i).toNat)
    case atStart => exact ⟨0, 0, by omega, rfl, rfl, rfl⟩
    case round =>
      obtain ⟨k, q, hk, rfl, rfl, htake⟩ := hrel
      have HT := Lib.hid htake
      clear htake
      by_cases hkl : k < l.length
      · have hkm : k < m.length := by have := HL.out; omega
        obtain ⟨b1, o1, rfl, x0, x1⟩ := load_fd h1 hkl
        obtain ⟨b2, o2, rfl, y0, y1⟩ := load_fd h2 hkm
        have hd : l[k] = m[k] ∨ (l[k] ≠ m[k] ∧ ((((l[k]).name.toList == (m[k]).name.toList) = false) ∨ ((l[k]).name = (m[k]).name ∧ ((l[k]).value.toList == (m[k]).value.toList) = false))) := by
          by_cases e0 : l[k] = m[k]
          · exact .inl e0
          · refine .inr ⟨e0, ?_⟩
            by_cases e1 : (l[k]).name = (m[k]).name
            · exact .inr ⟨e1, ba_list_ne (fun e2 => e0 (by cases h : l[k]; cases h' : m[k]; simp_all))⟩
            · exact .inl (ba_list_ne e1)
        rcases hd with hd | ⟨hd, hne⟩
        · have HD := Lib.hid hd
          rw [hd] at x0 x1
          obtain ⟨f, hf⟩ : ∃ f, m[k] = f := ⟨_, rfl⟩
          rw [hf] at x0 x1 y0 y1
          obtain ⟨fa, fb⟩ := f
          clear hd hf
          go_wp2
          go_big_quiet (fail)
          go_wp2
          go_roundw
          case rel => exact ⟨k + 1, q + nq, by omega, by go_num, rfl, by rw [List.take_succ_eq_append_getElem hkl, List.take_succ_eq_append_getElem hkm, HT.out, HD.out]⟩
          case measure => simp [intOf]; omega
        · have HD := Lib.hid hd
          obtain ⟨f, hf⟩ : ∃ f, l[k] = f := ⟨_, rfl⟩
          obtain ⟨g, hg⟩ : ∃ g, m[k] = g := ⟨_, rfl⟩
          rw [hf] at x0 x1 hne
          rw [hg] at y0 y1 hne
          obtain ⟨fa, fb⟩ := f
          obtain ⟨ga, gb⟩ := g
          simp only at hne
          clear hd hf hg
          rcases hne with h0 | ⟨h0, h00⟩
          · go_wp2
            go_big_quiet (fail)
            go_wp2
            go_ret
            refine ⟨ret_bool ?_, q + nq, by rw [World.drewN_drewN]⟩
            have := HD.out
            exact (decide_eq_false (fun e => this (by simp only [e]))).symm
          · subst h0
            go_wp2
            go_big_quiet (fail)
            go_wp2
            go_ret
            refine ⟨ret_bool ?_, q + nq, by rw [World.drewN_drewN]⟩
            have := HD.out
            exact (decide_eq_false (fun e => this (by simp only [e]))).symm
      · have hkl' : k = l.length := by omega
        go_wp2
        go_ret
        refine ⟨ret_bool ?_, _, rfl⟩
        have h1 := HT.out
        have h2 := HL.out
        rw [hkl', List.take_length, h2, List.take_length] at h1
        exact (decide_eq_true h1).symm
  · have hb : ((l.length : Int) != (m.length : Int)) = true := by rw [bne_iff_ne]; omega
    have HL := Lib.hid hlen
    clear hlen
    go_enter Tryd.func32, Tryd.ntmps32
    go_wp2
    go_ret
    refine ⟨ret_bool ?_, 0, rfl⟩
    have := HL.out
    exact (decide_eq_false (fun e => this (by rw [e]))).symm
theorem samef_n (b : Bool) (l m : List Fd) (n1 n2 : Nat) (e1 : l.length = n1) (e2 : m.length = n2) (A1 A2 : Option Addr) (c1 c2 : Nat) (w : World) (h1 : Rd w A1 (fdv l)) (h2 : Rd w A2 (fdv m)) (hl : n1 ≤ 1000000) (hm : n2 ≤ 1000000) (hb : decide (l = m) = b) :
    Calls Tryd.prog 32 #[.slice A1 n1 c1, .slice A2 n2 c2] w fun e w' => e = .returned (.bool b) ∧ Still w w' := by
  subst e1 e2
  rw [← hb]
  exact still_of (samef_any l m A1 A2 c1 c2 w h1 h2 hl hm)

def fixed : List Fd := [⟨⟨#[58, 97, 117, 116, 104, 111, 114, 105, 116, 121]⟩, ⟨#[]⟩⟩, ⟨⟨#[58, 112, 97, 116, 104]⟩, ⟨#[47]⟩⟩, ⟨⟨#[58, 109, 101, 116, 104, 111, 100]⟩, ⟨#[71, 69, 84]⟩⟩, ⟨⟨#[58, 109, 101, 116, 104, 111, 100]⟩, ⟨#[80, 79, 83, 84]⟩⟩,
  ⟨⟨#[58, 115, 99, 104, 101, 109, 101]⟩, ⟨#[104, 116, 116, 112, 115]⟩⟩, ⟨⟨#[58, 115, 116, 97, 116, 117, 115]⟩, ⟨#[50, 48, 48]⟩⟩, ⟨⟨#[58, 115, 116, 97, 116, 117, 115]⟩, ⟨#[52, 48, 52]⟩⟩, ⟨⟨#[58, 115, 116, 97, 116, 117, 115]⟩, ⟨#[53, 48, 48]⟩⟩,
  ⟨⟨#[97, 99, 99, 101, 112, 116]⟩, ⟨#[42, 47, 42]⟩⟩, ⟨⟨#[99, 111, 110, 116, 101, 110, 116, 45, 108, 101, 110, 103, 116, 104]⟩, ⟨#[48]⟩⟩, ⟨⟨#[99, 111, 110, 116, 101, 110, 116, 45, 116, 121, 112, 101]⟩, ⟨#[116, 101, 120, 116, 47, 112, 108, 97, 105, 110]⟩⟩,
  ⟨⟨#[99, 111, 110, 116, 101, 110, 116, 45, 116, 121, 112, 101]⟩, ⟨#[97, 112, 112, 108, 105, 99, 97, 116, 105, 111, 110, 47, 106, 115, 111, 110]⟩⟩, ⟨⟨#[99, 111, 111, 107, 105, 101]⟩, ⟨#[]⟩⟩, ⟨⟨#[100, 97, 116, 101]⟩, ⟨#[]⟩⟩, ⟨⟨#[101, 116, 97, 103]⟩, ⟨#[]⟩⟩, ⟨⟨#[117, 115, 101, 114, 45, 97, 103, 101, 110, 116]⟩, ⟨#[]⟩⟩]
set_option maxRecDepth 100000 in
set_option maxHeartbeats 2000000 in
theorem fixed_any (w : World) : Calls Tryd.prog 64 #[] w fun e w' => ∃ A, e = .returned (.slice A 16 16) ∧ Rd w' A (fdv fixed) ∧ Below w.heap.size w w' := by
  go_enter Tryd.func64, Tryd.ntmps64
  go_wp2
  go_ret
  exact ⟨_, rfl, Rd.fresh_mark w (fdv fixed) _ _, (Below.refl _ w).alloc (Nat.le_refl _) _⟩

end Go.Proofs.YtdldipkbknhhoaaDoor
