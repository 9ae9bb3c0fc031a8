/- FlightScript: what it answers. -/
import Derived.Test.YtifigmhecgbfoaaFrE
import Derived.Test.YtifigmhecgbfoaaFlN
import Derived.Deep.RegionHeld3
namespace Go.Proofs.Ytifigmhecgbfoaa
open Go.RowKit

/-- The acts that came in: what each is, place by place. -/
structure AcIn (w : World) (A : Option Addr) (m : Nat) (vd vt vp : Nat → Int) (vn : Nat → Nat) (vc : Nat → Bool) (vR : Nat → Option Addr) (vk : Nat → Nat) (vs : Nat → List Rg) : Prop where
  pl : m = 0 ∨ ∃ b off, A = some ⟨b, off, none⟩
  at_ : ∀ b off, A = some ⟨b, off, none⟩ → ∀ i, i < m → w.cell? ⟨b, off + i * 6, none⟩ = some (.int .i64 (vd i)) ∧ w.cell? ⟨b, off + i * 6 + 1, none⟩ = some (.int .i64 (vt i)) ∧ w.cell? ⟨b, off + i * 6 + 2, none⟩ = some (.int .i64 (vp i)) ∧ w.cell? ⟨b, off + i * 6 + 3, none⟩ = some (.int .u64 (vn i)) ∧ w.cell? ⟨b, off + i * 6 + 4, none⟩ = some (.bool (vc i)) ∧ w.cell? ⟨b, off + i * 6 + 5, none⟩ = some (.slice (vR i) (vs i).length (vk i))
  rd : ∀ i, i < m → Rd w (vR i) (rgv (vs i)) ∧ (vs i).length ≤ 9223372036854775807
  ra : ∀ i, i < m → vt i ≤ 9223372036854775807 ∧ vn i < 18446744073709551616
section
variable {w : World} {A : Option Addr} {m : Nat} {vd vt vp : Nat → Int} {vn : Nat → Nat} {vc : Nat → Bool} {vR : Nat → Option Addr} {vk : Nat → Nat} {vs : Nat → List Rg}
theorem AcIn.lt (h : AcIn w A m vd vt vp vn vc vR vk vs) {b off i : Nat} (hA : A = some ⟨b, off, none⟩) (hi : i < m) : b < w.heap.size := World.block_lt_of_cell? w _ (h.at_ b off hA i hi).1
theorem AcIn.below {w' : World} (h : AcIn w A m vd vt vp vn vc vR vk vs) (f : Below w.heap.size w w') : AcIn w' A m vd vt vp vn vc vR vk vs :=
  ⟨h.pl, fun b off e i hi => by
    have hb := h.lt e hi
    obtain ⟨h1, h2, h3, h4, h5, h6⟩ := h.at_ b off e i hi
    exact ⟨by rw [f.cell (p := ⟨b, _, none⟩) hb]; exact h1, by rw [f.cell (p := ⟨b, _, none⟩) hb]; exact h2, by rw [f.cell (p := ⟨b, _, none⟩) hb]; exact h3, by rw [f.cell (p := ⟨b, _, none⟩) hb]; exact h4, by rw [f.cell (p := ⟨b, _, none⟩) hb]; exact h5, by rw [f.cell (p := ⟨b, _, none⟩) hb]; exact h6⟩, fun i hi => ⟨(h.rd i hi).1.below f, (h.rd i hi).2⟩, h.ra⟩
end
theorem load6 {P : Program} {w : World} {b o : Nat} {v0 v1 v2 v3 v4 v5 : Value} (h0 : w.cell? ⟨b, o, none⟩ = some v0) (h1 : w.cell? ⟨b, o + 1, none⟩ = some v1) (h2 : w.cell? ⟨b, o + 2, none⟩ = some v2) (h3 : w.cell? ⟨b, o + 3, none⟩ = some v3) (h4 : w.cell? ⟨b, o + 4, none⟩ = some v4) (h5 : w.cell? ⟨b, o + 5, none⟩ = some v5) :
    Sem.run P (loadCellsFrom ⟨b, o, none⟩ 0 6 #[]) w = .ok #[v0, v1, v2, v3, v4, v5] w := by
  have := run_loadCells_list (P := P) (w := w) ⟨b, o, none⟩ [v0, v1, v2, v3, v4, v5] (fun j v hj => by
    rw [WideShapes.add_plain]
    rcases j with _ | _ | _ | _ | _ | _ | j
    · simp at hj; subst hj; exact h0
    · simp at hj; subst hj; exact h1
    · simp at hj; subst hj; exact h2
    · simp at hj; subst hj; exact h3
    · simp at hj; subst hj; exact h4
    · simp at hj; subst hj; exact h5
    · simp at hj)
  simpa [loadCells] using this
theorem cell6 {w : World} {b : Nat} {T : TypeId} {v0 v1 v2 v3 v4 v5 : Value} (h : w.heap[b]? = some (.cells #[v0, v1, v2, v3, v4, v5] T (0, 0))) :
    w.cell? ⟨b, 0, none⟩ = some v0 ∧ w.cell? ⟨b, 1, none⟩ = some v1 ∧ w.cell? ⟨b, 2, none⟩ = some v2 ∧ w.cell? ⟨b, 3, none⟩ = some v3 ∧ w.cell? ⟨b, 4, none⟩ = some v4 ∧ w.cell? ⟨b, 5, none⟩ = some v5 :=
  ⟨wrote_cell h 0 _ rfl, wrote_cell h 1 _ rfl, wrote_cell h 2 _ rfl, wrote_cell h 3 _ rfl, wrote_cell h 4 _ rfl, wrote_cell h 5 _ rfl⟩
theorem infoRg : (Try.prog.info? 35).map (fun i => (i.zero, i.size, i.bytes)) = some (some (.agg #[.int .u64 0, .int .u64 0]), 2, 16) := by kernel_rfl
theorem rgv_one (l : List Rg) : ∀ u ∈ rgv l, u.oneCell' = true := by
  induction l with
  | nil => intro u hu; cases hu
  | cons x l ih =>
    intro u hu
    simp only [rgv, Rg.cells, List.cons_append, List.nil_append, List.mem_cons] at hu
    rcases hu with rfl | rfl | hu
    · rfl
    · rfl
    · exact ih u hu
/-- 'append(v, xs...)' of records, the source nil or not. -/
theorem wpList_appR {P : Program} {w : World} {ops : Array Oper} {rest : List Oper} {o : Oper} {a : Act} {Q : Exit → Act → World → Prop} (hgd : o.guard = none) (s x : Operand) (t : TypeId)
    (ho : o.op = .call { callee := .builtin .append, args := #[s, x], argTypes := #[t, t] })
    (base : Nat) (e : TypeId) (z : Value) (size bytes : Nat) (hinfo : (P.info? e).map (fun i => (i.zero, i.size, i.bytes)) = some (some z, size, bytes)) (ht : P.underlying t = some (.slice e)) (hzs : z.cells.size = size) (hsz : 0 < size)
    (v : Value) (n : Nat) (xs : List Value) (hs : a.eval s = v) (hown : w.ownsRow base e size v n xs)
    (A : Option Addr) (m c : Nat) (news : List Value) (hx : a.eval x = .slice A m c) (hl : news.length = m * size) (hr : Rd w A news) (h1 : ∀ u ∈ news, u.oneCell' = true)
    (h63 : n + m ≤ maxLen) (hbytes : (n + m) * bytes ≤ 140737488355328) (hbase : base ≤ w.heap.size)
    (h : ∀ A' c' w', w'.ownsRow base e size (.slice A' (n + m) c') (n + m) (xs ++ news) → w.grownBy w' v.ownBlock →
      ((Value.slice A' (n + m) c').ownBlock = v.ownBlock ∨ (Value.slice A' (n + m) c').ownBlock = some w.heap.size) → wpList P ops Q rest (a.put o.dst (.slice A' (n + m) c')) w') : wpList P ops Q (o :: rest) a w := by
  cases A with
  | some ad => exact wpList_appS hgd s x t ho base e z size bytes hinfo ht hzs hsz v n xs hs hown ad m c news hx hl hr.cells h1 h63 hbytes hbase h
  | none =>
    have hm : m = 0 := by
      rcases Nat.eq_zero_or_pos m with h0 | h0
      · exact h0
      · obtain ⟨b, off, h, _⟩ := hr (by rw [hl]; exact Nat.mul_pos h0 hsz)
        cases h
    subst hm
    have hn : news = [] := List.eq_nil_of_length_eq_zero (by rw [hl]; simp)
    subst hn
    obtain ⟨i, hi, hz, hsize, hby⟩ := info_parts hinfo
    refine wpList_plain hgd fun K hK => ?_
    have hrun := run_app_nil (P := P) w base t o.type e i size ht hi v n xs hown c
    obtain ⟨A', c', hv, _⟩ := own_shape w hown
    subst hv
    have := hK _ _ (h A' c' w (by simpa using hown) (World.grownBy.refl w _) (.inl rfl))
    unfold Oper.wp execOp
    simp only [ho, resolve, invoke, builtin, Sem.run_bind, Sem.run_pure, Result.andThen_ok, List.map_toArray, List.map_cons, List.map_nil, hs, hx, hrun]
    exact this
theorem samen_eq (l : List Nat) (n : Nat) (A1 A2 : Option Addr) (c1 c2 : Nat) (w : World) (hl : l.length = n) (h1 : Rd w A1 (nv l)) (h2 : Rd w A2 (nv l)) (hn : n ≤ 140737488355328) :
    Calls Try.prog 12 #[.slice A1 n c1, .slice A2 n c2] w fun e w' => e = .returned (.bool true) ∧ Still w w' := by
  subst hl
  have := still_of (samen_any l l A1 A2 c1 c2 w h1 h2 hn hn)
  rwa [show decide (l = l) = true from by simp] at this
/-! ### Where there is none -/
set_option maxHeartbeats 2000000 in
theorem zsent (num tick : Int) (c : Bool) (w : World) : Calls Try.prog 10 #[.pointer none, .int .u64 num, .int .i64 tick, .bool c] w fun r w' => r = .returned (.bool false) ∧ w = w' := by
  go_enter Try.func10, Try.ntmps10
  go_wp2_with fail
  go_ret
  exact ⟨rfl, rfl⟩
set_option maxHeartbeats 2000000 in
theorem zunder (w : World) : Calls Try.prog 13 #[.pointer none] w fun r w' => r = .returned (.int .i64 0) ∧ w = w' := by
  go_enter Try.func13, Try.ntmps13
  go_wp2_with fail
  go_ret
  exact ⟨rfl, rfl⟩

/-- Both, the act's own block, and what was there at first. -/
structure FMid (B : Nat) (w0 W : World) (p q bx : Nat) (cs : Array Value) (N : Nat) (f : Fl) (r : RS) : Prop where
  two : Two OF OG (fun k => k < B ∨ k = bx) W p f q r
  x : W.heap[bx]? = some (.cells cs 48 (0, 0))
  bel : Below B w0 W
  lt : B ≤ bx
  sim : Sim f r
  len : r.P.length ≤ N
section
variable {B : Nat} {w0 W W' : World} {p q bx N : Nat} {cs : Array Value} {f f' : Fl} {r r' : RS}
theorem FMid.blt (h : FMid B w0 W p q bx cs N f r) : B ≤ W.heap.size := by have := heap_lt h.x; have := h.lt; omega
theorem FMid.below (h : FMid B w0 W p q bx cs N f r) (st : Below W.heap.size W W') : FMid B w0 W' p q bx cs N f r :=
  ⟨h.two.below okF okG st, heap_fr h.x (Fr.of_below st NoS) (fun x => x), h.bel.trans (st.mono h.blt), h.lt, h.sim, h.len⟩
theorem FMid.still (h : FMid B w0 W p q bx cs N f r) (st : Still W W') : FMid B w0 W' p q bx cs N f r := h.below st.below
/-- Behind calls on both. -/
theorem FMid.on (h : FMid B w0 W p q bx cs N f r) {M : Nat} (t : Two OF OG (fun k => k < B ∨ k = bx) W' p f' q r') (F : Fr (NotP (fun k => k < B ∨ k = bx)) W W') (s : Sim f' r') (l : r'.P.length ≤ M) : FMid B w0 W' p q bx cs M f' r' :=
  ⟨t, heap_fr h.x F (fun hn => hn (.inr rfl)), fp_below h.bel h.blt (fun _ h => .inl h) F, h.lt, s, l⟩
end
end Go.Proofs.Ytifigmhecgbfoaa
