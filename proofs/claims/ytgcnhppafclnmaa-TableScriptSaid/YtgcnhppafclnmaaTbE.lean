/- table: Find. -/
import Derived.Test.YtgcnhppafclnmaaTbD
import Derived.Deep.RegionHeld3
namespace Go.Proofs.Ytgcnhppafclnmaa
open Go.RowKit Go.Shelf

attribute [local go_sem] Oper.semAt_some

theorem ba_beq (u v : ByteArray) : (u == v) = decide (u = v) := by
  obtain ⟨u⟩ := u
  obtain ⟨v⟩ := v
  have e : ((⟨u⟩ : ByteArray) == ⟨v⟩) = (u == v) := rfl
  rw [e, Bool.eq_iff_iff, beq_iff_eq, decide_eq_true_eq]
  constructor
  · rintro rfl; rfl
  · intro h; injection h
theorem ba_ne {u v : ByteArray} (h : u ≠ v) : (u == v) = false := by rw [ba_beq, decide_eq_false h]
theorem ba_list_ne {u v : ByteArray} (h : u ≠ v) : (u.toList == v.toList) = false := by
  rw [beq_eq_false_iff_ne, ByteArray.toList_eq, ByteArray.toList_eq]
  intro e
  exact h (WideShapes.bytes_inj e)
def fat (g x : Nat) : Int := IntKind.u64.wrap ((g : Int) + IntKind.u64.wrap (x : Int))
def fnm (a : ByteArray) (pre : List (Nat × Fd)) : Option (Nat × Fd) := pre.find? (fun x => decide (x.2.name = a))
theorem fnm_some {a : ByteArray} {pre : List (Nat × Fd)} (x : Nat × Fd) (h : (fnm a pre).isSome = true) : fnm a (pre ++ [x]) = fnm a pre := by
  unfold fnm at *
  rw [List.find?_append]
  cases hf : pre.find? (fun x => decide (x.2.name = a)) with
  | none => rw [hf] at h; cases h
  | some y => rfl
theorem fnm_no {a : ByteArray} {pre : List (Nat × Fd)} (x : Nat × Fd) (h : x.2.name ≠ a) : fnm a (pre ++ [x]) = fnm a pre := by
  unfold fnm
  rw [List.find?_append, List.find?_cons, decide_eq_false h]
  cases pre.find? (fun x => decide (x.2.name = a)) <;> rfl
theorem fnm_yes {a : ByteArray} {pre : List (Nat × Fd)} (x : Nat × Fd) (h : x.2.name = a) (h0 : (fnm a pre).isSome = false) : fnm a (pre ++ [x]) = some x := by
  unfold fnm at *
  rw [List.find?_append, List.find?_cons, decide_eq_true h]
  cases hf : pre.find? (fun x => decide (x.2.name = a)) with
  | none => rfl
  | some y => rw [hf] at h0; cases h0
theorem bk_lt {l : List Fd} : ∀ {n : Nat} {x : Nat × Fd}, x ∈ bk l n → x.1 < n
  | 0, x, h => by cases h
  | n + 1, x, h => by
    rw [bk] at h
    rcases List.mem_cons.1 h with rfl | h
    · exact Nat.lt_succ_self n
    · have := bk_lt h; omega
theorem fat_eq (g x : Nat) (h : g + x ≤ 2000000) : fat g x = ((g + x : Nat) : Int) := by
  unfold fat
  rw [IntKind.wrap_u64, IntKind.wrap_u64]; omega
theorem find_none (t : Tb) (a b : ByteArray) (hno : ∀ x ∈ bk t.l t.l.length, x.2 ≠ ⟨a, b⟩) : t.find ⟨a, b⟩ = (((fnm a (bk t.l t.l.length)).map fun x => t.gone + x.1).getD 0, (fnm a (bk t.l t.l.length)).isSome, false) := by
  unfold Tb.find
  rw [List.find?_eq_none.2 (fun x hx => by simpa using hno x hx)]
  show (match (bk t.l t.l.length).find? (fun x => decide (x.2.name = a)) with | some x => (t.gone + x.1, true, false) | none => (0, false, false)) = _
  unfold fnm
  cases (bk t.l t.l.length).find? (fun x => decide (x.2.name = a)) <;> rfl
theorem find_some (t : Tb) (a b : ByteArray) (ini : List (Nat × Fd)) (x : Nat × Fd) (k : Nat) (hk : (bk t.l t.l.length).take k = ini ++ [x]) (hno : ∀ y ∈ ini, y.2 ≠ ⟨a, b⟩) (hx : x.2 = ⟨a, b⟩) : t.find ⟨a, b⟩ = (t.gone + x.1, true, true) := by
  have e : bk t.l t.l.length = ini ++ ([x] ++ (bk t.l t.l.length).drop k) := by
    rw [← List.append_assoc, ← hk, List.take_append_drop]
  have hf : (bk t.l t.l.length).find? (fun x => decide (x.2 = ⟨a, b⟩)) = some x := by
    rw [e, List.find?_append, List.find?_eq_none.2 (fun y hy => by simpa using hno y hy)]
    simp [hx]
  unfold Tb.find
  rw [hf]
theorem res3 {P : Program} {fn : Func} {p q r : Tmp} {s t u : TypeId} (h : fn.results = #[.cell p s, .cell q t, .cell r u]) (tmps : Array Value) (w : World) (a b c : Addr) (x y z : Value)
    (ha : tmps.getD p undef = .pointer (some a)) (hb : tmps.getD q undef = .pointer (some b)) (hc : tmps.getD r undef = .pointer (some c))
    (hx : (loadVar s a).run P w = .ok x w) (hy : (loadVar t b).run P w = .ok y w) (hz : (loadVar u c).run P w = .ok z w) : (results fn tmps).run P w = .ok (.tuple #[x, y, z]) w := by
  simp only [Array.getD_eq_getD_getElem?] at ha hb hc
  simp only [results, h]
  simp [Sem.run_bind, Result.andThen, ha, hb, hc, asAddr, hx, hy, hz]
/-- What Find's rounds know. -/
structure FiSt (N p g : Nat) (a b : ByteArray) (pre : List (Nat × Fd)) (W : World) : Prop where
  r0 : HasRow W N 25 #[.pointer (some ⟨p, 0, none⟩)]
  r1 : HasRow W (N + 1) 28 #[.string a, .string b]
  r2 : HasRow W (N + 1 + 1) 31 #[.int .u64 0]
  r3 : HasRow W (N + 1 + 1 + 1) 4 #[.bool false]
  r4 : HasRow W (N + 1 + 1 + 1 + 1) 4 #[.bool false]
  r5 : HasRow W (N + 1 + 1 + 1 + 1 + 1) 31 #[.int .u64 (((fnm a pre).map fun x => fat g x.1).getD 0)]
  r6 : HasRow W (N + 1 + 1 + 1 + 1 + 1 + 1) 4 #[.bool (fnm a pre).isSome]
  no : ∀ x ∈ pre, x.2 ≠ ⟨a, b⟩
theorem FiSt.keep {N p g : Nat} {a b : ByteArray} {pre : List (Nat × Fd)} {W W' : World} {row : Option Nat} (h : FiSt N p g a b pre W) (hg : W.grownBy W' row) (hr : ∀ r, row = some r → ∃ o : Obj, W.heap[r]? = some o ∧ o.isCells = false) : FiSt N p g a b pre W' :=
  ⟨h.r0.keep hg hr, h.r1.keep hg hr, h.r2.keep hg hr, h.r3.keep hg hr, h.r4.keep hg hr, h.r5.keep hg hr, h.r6.keep hg hr, h.no⟩
theorem FiSt.below {N p g : Nat} {a b : ByteArray} {pre : List (Nat × Fd)} {W W' : World} (h : FiSt N p g a b pre W) (hb : Below W.heap.size W W') : FiSt N p g a b pre W' :=
  ⟨h.r0.below hb, h.r1.below hb, h.r2.below hb, h.r3.below hb, h.r4.below hb, h.r5.below hb, h.r6.below hb, h.no⟩
/-- A round has found the field itself. -/
structure FiDone (N g : Nat) (a b : ByteArray) (pre : List (Nat × Fd)) (W : World) : Prop where
  found : ∃ ini x, pre = ini ++ [x] ∧ (∀ y ∈ ini, y.2 ≠ ⟨a, b⟩) ∧ x.2 = ⟨a, b⟩ ∧ HasRow W (N + 1 + 1) 31 #[.int .u64 (fat g x.1)]
  r3 : HasRow W (N + 1 + 1 + 1) 4 #[.bool true]
  r4 : HasRow W (N + 1 + 1 + 1 + 1) 4 #[.bool true]
theorem FiDone.keep {N g : Nat} {a b : ByteArray} {pre : List (Nat × Fd)} {W W' : World} {row : Option Nat} (h : FiDone N g a b pre W) (hg : W.grownBy W' row) (hr : ∀ r, row = some r → ∃ o : Obj, W.heap[r]? = some o ∧ o.isCells = false) : FiDone N g a b pre W' := by
  obtain ⟨ini, x, h1, h2, h3, h4⟩ := h.found
  exact ⟨⟨ini, x, h1, h2, h3, h4.keep hg hr⟩, h.r3.keep hg hr, h.r4.keep hg hr⟩

def fiW (w : World) (p : Nat) (a b : ByteArray) (s : Value) : World :=
  (((((((w.alloc (.cells #[.pointer (some ⟨p, 0, none⟩)] 25)).alloc (.cells #[.string a, .string b] 28)).alloc (.cells #[.int .u64 0] 31)).alloc (.cells #[.bool false] 4)).alloc (.cells #[.bool false] 4)).alloc (.cells #[.int .u64 0] 31)).alloc (.cells #[.bool false] 4)).alloc (.cells #[s] 22)
theorem fi_start (w : World) (p g : Nat) (a b : ByteArray) (s : Value) : (FiSt w.heap.size p g a b [] (fiW w p a b s) ∧ HasRow (fiW w p a b s) (w.heap.size + 1 + 1 + 1 + 1 + 1 + 1 + 1) 22 #[s] ∧ (fiW w p a b s).heap.size = w.heap.size + 8) ∧ Below w.heap.size w (fiW w p a b s) := by
  refine ⟨⟨⟨?_, ?_, ?_, ?_, ?_, ?_, ?_, by simp⟩, ?_, by simp [fiW]⟩, ?_⟩
  · exact (((((((HasRow.new w _ _).alloc _).alloc _).alloc _).alloc _).alloc _).alloc _).alloc _
  · have := ((((((HasRow.new (w.alloc (.cells #[.pointer (some ⟨p, 0, none⟩)] 25)) 28 #[.string a, .string b]).alloc (.cells #[.int .u64 0] 31)).alloc (.cells #[.bool false] 4)).alloc (.cells #[.bool false] 4)).alloc (.cells #[.int .u64 0] 31)).alloc (.cells #[.bool false] 4)).alloc (.cells #[s] 22)
    simpa only [fiW, World.size_alloc] using this
  · have := (((((HasRow.new ((w.alloc (.cells #[.pointer (some ⟨p, 0, none⟩)] 25)).alloc (.cells #[.string a, .string b] 28)) 31 #[.int .u64 0]).alloc (.cells #[.bool false] 4)).alloc (.cells #[.bool false] 4)).alloc (.cells #[.int .u64 0] 31)).alloc (.cells #[.bool false] 4)).alloc (.cells #[s] 22)
    simpa only [fiW, World.size_alloc] using this
  · have := ((((HasRow.new (((w.alloc (.cells #[.pointer (some ⟨p, 0, none⟩)] 25)).alloc (.cells #[.string a, .string b] 28)).alloc (.cells #[.int .u64 0] 31)) 4 #[.bool false]).alloc (.cells #[.bool false] 4)).alloc (.cells #[.int .u64 0] 31)).alloc (.cells #[.bool false] 4)).alloc (.cells #[s] 22)
    simpa only [fiW, World.size_alloc] using this
  · have := (((HasRow.new ((((w.alloc (.cells #[.pointer (some ⟨p, 0, none⟩)] 25)).alloc (.cells #[.string a, .string b] 28)).alloc (.cells #[.int .u64 0] 31)).alloc (.cells #[.bool false] 4)) 4 #[.bool false]).alloc (.cells #[.int .u64 0] 31)).alloc (.cells #[.bool false] 4)).alloc (.cells #[s] 22)
    simpa only [fiW, World.size_alloc] using this
  · show HasRow _ _ _ #[.int .u64 0]
    have := ((HasRow.new (((((w.alloc (.cells #[.pointer (some ⟨p, 0, none⟩)] 25)).alloc (.cells #[.string a, .string b] 28)).alloc (.cells #[.int .u64 0] 31)).alloc (.cells #[.bool false] 4)).alloc (.cells #[.bool false] 4)) 31 #[.int .u64 0]).alloc (.cells #[.bool false] 4)).alloc (.cells #[s] 22)
    simpa only [fiW, World.size_alloc] using this
  · show HasRow _ _ _ #[.bool false]
    have := (HasRow.new ((((((w.alloc (.cells #[.pointer (some ⟨p, 0, none⟩)] 25)).alloc (.cells #[.string a, .string b] 28)).alloc (.cells #[.int .u64 0] 31)).alloc (.cells #[.bool false] 4)).alloc (.cells #[.bool false] 4)).alloc (.cells #[.int .u64 0] 31)) 4 #[.bool false]).alloc (.cells #[s] 22)
    simpa only [fiW, World.size_alloc] using this
  · have := HasRow.new (((((((w.alloc (.cells #[.pointer (some ⟨p, 0, none⟩)] 25)).alloc (.cells #[.string a, .string b] 28)).alloc (.cells #[.int .u64 0] 31)).alloc (.cells #[.bool false] 4)).alloc (.cells #[.bool false] 4)).alloc (.cells #[.int .u64 0] 31)).alloc (.cells #[.bool false] 4)) 22 #[s]
    simpa only [fiW, World.size_alloc] using this
  · exact ((((((((Fr.refl NoS w).alloc _).alloc _).alloc _).alloc _).alloc _).alloc _).alloc _).alloc _ |>.below

section
variable {w : World} {p : Nat} {A : Option Addr} {c : Nat} {t : Tb}
set_option maxRecDepth 100000 in
set_option maxHeartbeats 8000000 in
theorem tfind_in (F : Fence) (n : Nat) (h17 : F.fn 17) (h27 : F.fn 27) (h28 : F.fn 28) (hro : F.round = none) (hn : 3 ≤ n) (h : IsTb w p A c t) (a b : ByteArray) :
    CallsIn F n Try.prog 17 #[.pointer (some ⟨p, 0, none⟩), .agg #[.string a, .string b]] w fun e w' => e = .returned (.tuple #[.int .u64 ((t.find ⟨a, b⟩).1 : Nat), .bool (t.find ⟨a, b⟩).2.1, .bool (t.find ⟨a, b⟩).2.2]) ∧ Below w.heap.size w w' := by
  have h1 : 1 ≤ n := by omega
  have c3 := wrote_cell h.cell 3 _ rfl
  have c3a := fun o1 o2 o3 o4 o5 o6 o7 => Lib.cell?_alloc_some o7 (Lib.cell?_alloc_some o6 (Lib.cell?_alloc_some o5 (Lib.cell?_alloc_some o4 (Lib.cell?_alloc_some o3 (Lib.cell?_alloc_some o2 (Lib.cell?_alloc_some o1 c3))))))
  have H := Lib.hid h
  clear h
  refine callsIn_of_wp_marks Try.func17 rfl h17 ?_ hro
  simp only [Try.ntmps17, List.size_toArray, List.length_cons, List.length_nil, Nat.reduceAdd, Nat.reduceSub, Array.replicate_succ, Array.replicate_zero, List.push_toArray, List.append_toArray, List.nil_append, List.cons_append]
  gi_wp2_with (gi_at_call 27; refine (back_in F (n - 1) h27 hro _ _ _ _).mono ?_; rintro e w' ⟨rfl, rfl⟩)
  obtain ⟨S0, B0⟩ := fi_start w p t.gone a b (.slice A t.l.length c)
  obtain ⟨W0, hW0⟩ : ∃ W0, fiW w p a b (.slice A t.l.length c) = W0 := ⟨_, rfl⟩
  rw [hW0] at S0 B0
  unfold fiW at hW0
  rw [hW0]
  obtain ⟨S0, bN, hsz⟩ := S0
  have hp := H.out.lt
  have hgl := t.len_add H.out.ok
  have hl6 := H.out.len
  have hF6 := H.out.small
  have c2 := wrote_cell H.out.cell 2 _ rfl
  obtain ⟨g, hg⟩ : ∃ g, t.gone = g := ⟨_, rfl⟩
  rw [hg] at S0 c2 hgl
  obtain ⟨N, hN⟩ : ∃ N, w.heap.size = N := ⟨_, rfl⟩
  rw [hN] at S0 B0 bN hsz hp ⊢
  replace hg := Lib.hid hg
  clear hW0 c3a
  refine wpIn_rangeFunc_ownH hro h1 (gf := 28) (lb := #[.pointer (some ⟨N + 1 + 1 + 1 + 1 + 1 + 1 + 1, 0, none⟩)]) rfl h28 (enters_of Try.func28 (by kernel_rfl) rfl)
    (back_stops F (n - 1) h28 hro (by omega) (N + 1 + 1 + 1 + 1 + 1 + 1 + 1) N A c t.l hl6 W0 (by omega) bN (H.out.rd.below (by rw [hN]; exact B0)) (fun a ha => by have := H.out.on_lt a.block (.inr ⟨a, ha, rfl⟩); omega)) keepK_t (keepK_b (by omega)) (Below.refl _ _) (fun _ => rfl)
    (fun pre W => FiSt N p g a b pre W ∧ Below N w W)
    (fun co pre W => (co = .ret ∧ FiDone N g a b pre W) ∧ Below N w W)
    (OwnFrom.and (Own.from (fun s X Y row hs hg hr => hs.keep hg hr) _) (ownFrom_below (by omega) (by omega)))
    (fun co => OwnFrom.and (Own.from (fun s X Y row hs hg hr => ⟨hs.1, hs.2.keep hg hr⟩) _) (ownFrom_below (by omega) (by omega)))
    ⟨S0, B0⟩
    (fun x a' W => ∃ Bx, N + 7 ≤ Bx ∧ HasRow W Bx 28 #[.string x.2.name, .string x.2.value] ∧ a' = { tmps := #[.pointer (some ⟨p, 0, none⟩), .agg #[.string a, .string b], .pointer (some ⟨N, 0, none⟩), .pointer (some ⟨N + 1, 0, none⟩), .pointer (some ⟨N + 1 + 1, 0, none⟩), .pointer (some ⟨N + 1 + 1 + 1, 0, none⟩), .pointer (some ⟨N + 1 + 1 + 1 + 1, 0, none⟩), .pointer (some ⟨N + 1 + 1 + 1 + 1 + 1, 0, none⟩), .pointer (some ⟨N + 1 + 1 + 1 + 1 + 1 + 1, 0, none⟩), .int .i64 (x.1 : Int), .pointer (some ⟨Bx, 0, none⟩), .pointer (some ⟨p, 0, none⟩), .bool false, .pointer (some ⟨p, 0, none⟩), .pointer (some ⟨p, 0, none⟩), .pointer (some ⟨p, 3, none⟩), .slice A t.l.length c, .func (.func 28) #[] #[.pointer (some ⟨N + 1 + 1 + 1 + 1 + 1 + 1 + 1, 0, none⟩)], .int .i64 (x.1 : Int), .agg #[.string x.2.name, .string x.2.value], undef, undef, undef, undef, undef, undef, undef, undef, undef, undef, undef, undef, undef, undef, undef, undef, undef, undef, undef, undef, undef, undef, undef, undef, undef, undef, undef, undef], defers := [] })
    (fun x a' _ X Y row hs hg hr => by obtain ⟨Bx, k1, k2, k3⟩ := hs; exact ⟨Bx, k1, k2.keep hg (fun r e => (hr r e).2), k3⟩)
    ?assign ?body ?done ?stop
  case assign =>
    rintro l pre x W K ⟨S1, hB1⟩ hK
    gi_wp2
    have hs6 := S1.r6.lt
    have hs0 := hB1.size
    exact hK _ _ ((KeepsOthers.alloc _ _).from _) ⟨(Below.refl _ W).alloc (by omega) _, fun _ _ h => h.alloc _⟩ ⟨S1.below ((Below.refl _ W).alloc (Nat.le_refl _) _), hB1.alloc (by omega) _⟩ ⟨W.heap.size, by omega, HasRow.new W _ _, rfl⟩
  case body =>
    rintro l pre ⟨xi, xa, xb⟩ a' W hl ⟨r, hr⟩ ⟨S1, hB1⟩ ⟨Bx, hBx, bX, rfl⟩ hlt
    have x0 := bX.cell 0 _ rfl
    have x1 := bX.cell 1 _ rfl
    have f0 := S1.r1.cell 0 _ rfl
    have f1 := S1.r1.cell 1 _ rfl
    have p0 := S1.r0.cell 0 _ rfl
    have m0 := S1.r6.cell 0 _ rfl
    have g0 : W.cell? ⟨p, 2, none⟩ = some (.int .u64 (g : Int)) := (hB1.cell (p := ⟨p, 2, none⟩) hp).trans c2
    have e2 := S1.r2.frozen 0
    have e3 := S1.r3.frozen 0
    have e4 := S1.r4.frozen 0
    have e5 := S1.r5.frozen 0
    have e6 := S1.r6.frozen 0
    have v2 := S1.r2.cell 0 _ rfl
    have v3 := S1.r3.cell 0 _ rfl
    have v4 := S1.r4.cell 0 _ rfl
    have v5 := S1.r5.cell 0 _ rfl
    by_cases hx : (⟨xa, xb⟩ : Fd) = ⟨a, b⟩
    · injection hx with hx1 hx2
      subst hx1 hx2
      gi_wp2
      refine ⟨(((KeepsOthers.setCell _ _ _).trans (KeepsOthers.setCell _ _ _)).trans (KeepsOthers.setCell _ _ _)).from _, ⟨rfl, ⟨pre, (xi, ⟨xa, xb⟩), rfl, S1.no, rfl, ((S1.r2.set1 _).other (by omega) _ _).other (by omega) _ _⟩, ((S1.r3.other (by omega) _ _).set1 _).other (by omega) _ _, ((S1.r4.other (by omega) _ _).other (by omega) _ _).set1 _⟩, ?_⟩
      exact ((hB1.setCell (p := ⟨N + 1 + 1, 0, none⟩) (by simp only; omega) _).setCell (p := ⟨N + 1 + 1 + 1, 0, none⟩) (by simp only; omega) _).setCell (p := ⟨N + 1 + 1 + 1 + 1, 0, none⟩) (by simp only; omega) _
    · have hno : ∀ y ∈ pre ++ [(xi, (⟨xa, xb⟩ : Fd))], y.2 ≠ ⟨a, b⟩ := fun y hy => by
        rcases List.mem_append.1 hy with hy | hy
        · exact S1.no y hy
        · rw [List.mem_singleton.1 hy]; exact hx
      by_cases hxa : xa = a
      · have hxb := ba_list_ne (u := xb) (v := b) (by rintro rfl; exact hx (by rw [hxa]))
        subst hxa
        cases hm : (fnm xa pre).isSome
        · rw [hm] at m0
          have hf := fnm_yes (pre := pre) (xi, (⟨xa, xb⟩ : Fd)) rfl hm
          replace hm := Lib.hid hm
          clear hx
          gi_wp2
          refine ⟨((KeepsOthers.setCell _ _ _).trans (KeepsOthers.setCell _ _ _)).from _, ⟨((Below.refl N W).setCell (p := ⟨N + 1 + 1 + 1 + 1 + 1, 0, none⟩) (by simp only; omega) _).setCell (p := ⟨N + 1 + 1 + 1 + 1 + 1 + 1, 0, none⟩) (by simp only; omega) _, fun _ _ h => (h.other (by omega) _ _).other (by omega) _ _⟩,
            ⟨(S1.r0.other (by omega) _ _).other (by omega) _ _, (S1.r1.other (by omega) _ _).other (by omega) _ _, (S1.r2.other (by omega) _ _).other (by omega) _ _, (S1.r3.other (by omega) _ _).other (by omega) _ _, (S1.r4.other (by omega) _ _).other (by omega) _ _, by rw [hf]; exact (S1.r5.set1 _).other (by omega) _ _, by rw [hf]; exact (S1.r6.other (by omega) _ _).set1 _, hno⟩, ?_⟩
          exact (hB1.setCell (p := ⟨N + 1 + 1 + 1 + 1 + 1, 0, none⟩) (by simp only; omega) _).setCell (p := ⟨N + 1 + 1 + 1 + 1 + 1 + 1, 0, none⟩) (by simp only; omega) _
        · rw [hm] at m0
          have hf := fnm_some (pre := pre) (a := xa) (xi, (⟨xa, xb⟩ : Fd)) hm
          replace hm := Lib.hid hm
          clear hx
          gi_wp2
          exact ⟨KeepsFrom.refl _ _, KeepK.refl _ _ _, ⟨S1.r0, S1.r1, S1.r2, S1.r3, S1.r4, by rw [hf]; exact S1.r5, by rw [hf]; exact S1.r6, hno⟩, hB1⟩
      · have ht := ba_list_ne hxa
        have hxb : (xa == a) = false := ba_ne hxa
        have hf := fnm_no (pre := pre) (a := a) (xi, (⟨xa, xb⟩ : Fd)) hxa
        clear hx
        gi_wp2
        exact ⟨KeepsFrom.refl _ _, KeepK.refl _ _ _, ⟨S1.r0, S1.r1, S1.r2, S1.r3, S1.r4, by rw [hf]; exact S1.r5, by rw [hf]; exact S1.r6, hno⟩, hB1⟩
  case done =>
    rintro D ys W hD rfl ⟨S1, hB1⟩ hK
    have hf := find_none t a b S1.no
    have hXY : ∃ X Y, t.find ⟨a, b⟩ = (X, Y, false) ∧ HasRow W (N + 1 + 1 + 1 + 1 + 1) 31 #[.int .u64 (X : Nat)] ∧ HasRow W (N + 1 + 1 + 1 + 1 + 1 + 1) 4 #[.bool Y] := by
      refine ⟨_, _, hf, ?_, S1.r6⟩
      have := S1.r5
      rw [hg.out]
      cases hn : fnm a (bk t.l t.l.length) with
      | none => rw [hn] at this; exact this
      | some x =>
        rw [hn] at this
        have hlt := bk_lt (List.mem_of_find?_eq_some hn)
        simp only [Option.map_some, Option.getD_some] at this ⊢
        rw [fat_eq g x.1 (by omega)] at this
        exact this
    obtain ⟨X, Y, hXY, r5, r6⟩ := hXY
    have v5 := r5.cell 0 _ rfl
    have v6 := r6.cell 0 _ rfl
    have e2 := S1.r2.frozen 0
    have e3 := S1.r3.frozen 0
    have e4 := S1.r4.frozen 0
    have v2 := S1.r2.cell 0 _ rfl
    have v3 := S1.r3.cell 0 _ rfl
    have v4 := S1.r4.cell 0 _ rfl
    have s2 := S1.r2
    have s3 := S1.r3
    have s4 := S1.r4
    replace hXY := Lib.hid hXY
    have t2 := ((s2.set1 (.int .u64 (X : Nat))).other (B' := N + 1 + 1 + 1) (by omega) 0 (.bool Y)).other (B' := N + 1 + 1 + 1 + 1) (by omega) 0 (.bool false)
    have t3 := ((s3.other (B' := N + 1 + 1) (by omega) 0 (.int .u64 (X : Nat))).set1 (.bool Y)).other (B' := N + 1 + 1 + 1 + 1) (by omega) 0 (.bool false)
    have t4 := ((s4.other (B' := N + 1 + 1) (by omega) 0 (.int .u64 (X : Nat))).other (B' := N + 1 + 1 + 1) (by omega) 0 (.bool Y)).set1 (.bool false)
    have hKV := ((KeepsOthers.setCell W ⟨N + 1 + 1, 0, none⟩ (.int .u64 (X : Nat))).trans ((KeepsOthers.setCell _ ⟨N + 1 + 1 + 1, 0, none⟩ (.bool Y)).trans ((KeepsOthers.setCell _ ⟨N + 1 + 1 + 1 + 1, 0, none⟩ (.bool false)).trans (KeepsOthers.drew _)))).same D _ hK rfl
    have hBV := ((hB1.setCell (p := ⟨N + 1 + 1, 0, none⟩) (by simp only; omega) (.int .u64 (X : Nat))).setCell (p := ⟨N + 1 + 1 + 1, 0, none⟩) (by simp only; omega) (.bool Y)).setCell (p := ⟨N + 1 + 1 + 1 + 1, 0, none⟩) (by simp only; omega) (.bool false)
    have HT := Lib.hid (⟨t2.fr (Fr.refl NoS _).drew (fun x => x), t3.fr (Fr.refl NoS _).drew (fun x => x), t4.fr (Fr.refl NoS _).drew (fun x => x), hKV, hBV.trans ((Still.drew _).below.mono (by have := hBV.size; omega))⟩ : _ ∧ _ ∧ _ ∧ _ ∧ _)
    clear S1 hf r5 r6 t2 t3 t4 hKV hBV
    gi_wp2
    gi_region
    all_goals
      gi_wp2
      rw [hXY.out]
      obtain ⟨t2, t3, t4, hKV, hBV⟩ := HT.out
      refine ⟨by simp, .inl ⟨_, _, rfl, run_takeDeferred hKV, ?_⟩⟩
      have kp := fun {ad : Addr} {v : Value} (h : World.cell? _ ad = some v) => cell_kept h (grownBy_putObj' _ D (.deferred none)) (fun r e => by cases e; exact ⟨_, hKV, rfl⟩)
      have k2 := kp (t2.cell 0 _ rfl)
      have k3 := kp (t3.cell 0 _ rfl)
      have k4 := kp (t4.cell 0 _ rfl)
      refine ⟨_, res3 rfl _ _ ⟨N + 1 + 1, 0, none⟩ ⟨N + 1 + 1 + 1, 0, none⟩ ⟨N + 1 + 1 + 1 + 1, 0, none⟩ _ _ _ rfl rfl rfl ?_ ?_ ?_, rfl, ?_⟩
      · simp [go_sem, k2]
      · simp [go_sem, k3]
      · simp [go_sem, k4]
      · rw [hN]
        exact hBV.trans (belowK_b (w := w) (by omega) _ D _ _ (by omega) hKV rfl rfl)
  case stop =>
    rintro D co pre W hD ⟨k, hk, hpre⟩ ⟨⟨rfl, S1⟩, hB1⟩ hK
    obtain ⟨ini, x, q1, q2, q3, r2⟩ := S1.found
    rw [hpre] at q1
    have hf := find_some t a b ini x k q1 q2 q3
    have hlt : x.1 < t.l.length := bk_lt (List.mem_of_mem_take (by rw [q1]; simp : x ∈ (bk t.l t.l.length).take k))
    rw [fat_eq g x.1 (by omega), ← hg.out] at r2
    have c2' := r2.cell 0 _ rfl
    have c3' := S1.r3.cell 0 _ rfl
    have c4' := S1.r4.cell 0 _ rfl
    replace hf := Lib.hid hf
    gi_wp2
    rw [hf.out]
    refine ⟨by simp, .inl ⟨_, _, rfl, run_takeDeferred hK, ?_⟩⟩
    have kp : ∀ {ad : Addr} {v : Value}, W.cell? ad = some v → (W.putObj D (.deferred none)).cell? ad = some v := fun h => cell_kept h (grownBy_putObj' _ D (.deferred none)) (fun r e => by cases e; exact ⟨_, hK, rfl⟩)
    refine ⟨_, res3 rfl _ _ ⟨N + 1 + 1, 0, none⟩ ⟨N + 1 + 1 + 1, 0, none⟩ ⟨N + 1 + 1 + 1 + 1, 0, none⟩ _ _ _ rfl rfl rfl ?_ ?_ ?_, rfl, ?_⟩
    · have := kp c2'
      simp [go_sem, this]
    · have := kp c3'
      simp [go_sem, this]
    · have := kp c4'
      simp [go_sem, this]
    · rw [hN]
      exact hB1.trans (belowK_b (w := w) (by omega) W D _ _ (by omega) hK rfl rfl)
theorem tfind_any (h : IsTb w p A c t) (a b : ByteArray) :
    Calls Try.prog 17 #[.pointer (some ⟨p, 0, none⟩), .agg #[.string a, .string b]] w fun e w' => e = .returned (.tuple #[.int .u64 ((t.find ⟨a, b⟩).1 : Nat), .bool (t.find ⟨a, b⟩).2.1, .bool (t.find ⟨a, b⟩).2.2]) ∧ Below w.heap.size w w' :=
  callsIn_wide.1 (tfind_in Fence.wide 3 trivial trivial trivial rfl (Nat.le_refl _) h a b)
end
end Go.Proofs.Ytgcnhppafclnmaa
