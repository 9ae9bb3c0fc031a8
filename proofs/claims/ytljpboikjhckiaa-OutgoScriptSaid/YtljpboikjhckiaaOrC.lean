/- The document's own Out: There, Lost, New; the program's calls on nil. -/
import Derived.Test.YtljpboikjhckiaaOrB
import Derived.Test.YtljpboikjhckiaaOutE
import Derived.Deep.RegionLaw
namespace Go.Proofs.Ytljpboikjhckiaa
open Go.RowKit

section
variable {w w' : World} {p g n : Nat} {AD : Option Addr} {cD : Nat} {D S : List UInt8}
theorem rthere_any (h : IsRo w p g n AD cD D S) (off m : Int) (e : Bool) (ho0 : -9223372036854775808 ≤ off) (ho1 : off ≤ 9223372036854775807) (hm0 : -9223372036854775808 ≤ m) (hm1 : m ≤ 9223372036854775807) :
    Calls Try.prog 17 #[.pointer (some ⟨p, 0, none⟩), .int .i64 off, .int .i64 m, .bool e] w fun r w' => r = .returned (.tuple #[]) ∧ IsRo w' p g n AD cD D (oturn S n off m e 3 [1, 2]) ∧ Fr (· = g) w w' := by
  have CT := Lib.hid (rturn_any h off m e false 3 [1, 2] ho0 ho1 hm0 hm1 (.inr ⟨rfl, rfl, rfl⟩))
  replace h := Lib.hid h
  go_enter Try.func17, Try.ntmps17
  go_wp2_with fail
  refine CT.out.mono ?_
  rintro r w' ⟨rfl, h', f⟩
  go_wp2_with fail
  go_end0
  exact ⟨rfl, h', f⟩
theorem rlost_any (h : IsRo w p g n AD cD D S) (off m : Int) (e : Bool) (ho0 : -9223372036854775808 ≤ off) (ho1 : off ≤ 9223372036854775807) (hm0 : -9223372036854775808 ≤ m) (hm1 : m ≤ 9223372036854775807) :
    Calls Try.prog 19 #[.pointer (some ⟨p, 0, none⟩), .int .i64 off, .int .i64 m, .bool e] w fun r w' => r = .returned (.tuple #[]) ∧ IsRo w' p g n AD cD D (oturn S n off m e 2 [1]) ∧ Fr (· = g) w w' := by
  have CT := Lib.hid (rturn_any h off m e true 2 [1] ho0 ho1 hm0 hm1 (.inl ⟨rfl, rfl, rfl⟩))
  replace h := Lib.hid h
  go_enter Try.func19, Try.ntmps19
  go_wp2_with fail
  refine CT.out.mono ?_
  rintro r w' ⟨rfl, h', f⟩
  go_wp2_with fail
  go_end0
  exact ⟨rfl, h', f⟩
end
theorem zturn (w : World) (x y : Int) (b : Bool) (t : Int) (v : Value) : Calls Try.prog 29 #[.pointer none, .int .i64 x, .int .i64 y, .bool b, .int .u8 t, v] w fun r w' => r = .returned (.tuple #[]) ∧ w = w' := by
  go_enter Try.func29, Try.ntmps29
  go_wp2_with fail
  (try simp only [Exit.inBlock, Exit.then])
  exact bodyPost_ret (results_none rfl _ _ _) rfl ⟨rfl, rfl⟩
theorem zthere (w : World) (x y : Int) (b : Bool) : Calls Try.prog 16 #[.pointer none, .int .i64 x, .int .i64 y, .bool b] w fun r w' => r = .returned (.tuple #[]) ∧ Below w.heap.size w w' := by
  have CT := Lib.hid (fun W v => zturn W x y b 3 v)
  go_enter Try.func16, Try.ntmps16
  go_wp2_with fail
  refine (CT.out _ _).mono ?_
  rintro r w' ⟨rfl, rfl⟩
  go_wp2_with fail
  go_end0
  exact ⟨rfl, (Below.refl _ w).alloc (Nat.le_refl _) _⟩
theorem znext (w : World) (x y : Int) : Calls Try.prog 13 #[.pointer none, .int .i64 x, .int .i64 y] w fun r w' => r = .returned (.tuple #[.int .i64 0, .slice none 0 0, .bool false, .bool false]) ∧ w = w' := by
  go_enter Try.func13, Try.ntmps13
  go_wp2_with fail
  exact bodyPost_ret (v := .tuple #[.int .i64 0, .slice none 0 0, .bool false, .bool false]) (by simp [results, Try.results13, go_sem]) rfl ⟨rfl, rfl⟩
theorem zcount (w : World) (x : Int) : Calls Try.prog 31 #[.pointer none, .int .u8 x] w fun r w' => r = .returned (.int .i64 0) ∧ w = w' := by
  go_enter Try.func31, Try.ntmps31
  go_wp2_with fail
  go_ret
  exact ⟨rfl, rfl⟩
theorem zleft (w : World) : Calls Try.prog 22 #[.pointer none] w fun r w' => r = .returned (.int .i64 0) ∧ w = w' := by
  have CT := Lib.hid (zcount w 3)
  go_enter Try.func22, Try.ntmps22
  go_wp2_with fail
  refine CT.out.mono ?_
  rintro r w' ⟨rfl, rfl⟩
  go_wp2_with fail
  go_ret
  exact ⟨rfl, rfl⟩
theorem zdone (w : World) : Calls Try.prog 23 #[.pointer none] w fun r w' => r = .returned (.bool false) ∧ Still w w' := by
  go_enter Try.func23, Try.ntmps23
  go_wp2_with fail
  go_big_quiet (fail)
  go_wp2_with fail
  go_ret
  exact ⟨rfl, Still.drewN _ _⟩

theorem iv8_zeros (n : Nat) : iv8 (List.replicate n 0) = List.replicate n (.int .i64 0) := by simp [iv8]
theorem own_madeI (w : World) (n : Nat) (hn : n ≤ 1000000) : (w.alloc (.cells (madeCells #[.int .i64 0] n) 3)).ownsRow 0 3 1 (.slice (some ⟨w.heap.size, 0, none⟩) n n) n (iv8 (List.replicate n 0)) := by
  refine ⟨by simp, .inr ⟨w.heap.size, n, madeCells #[.int .i64 0] n, rfl, Nat.zero_le _, heap_alloc_new w _, Nat.le_refl _, by unfold maxLen; omega, ?_, ?_⟩⟩
  · have := congrArg List.length (toList_madeCells_one (.int .i64 0) n)
    simpa using this
  · rw [toList_madeCells_one, iv8_zeros]; simp
/-- step_app, whatever is told to have yielded. -/
theorem step_appY {P : Program} {w : World} {ys : Nat → Option Bool} {o : Oper} {a : Act} {K : Act → World → Prop} {Q : Exit → Act → World → Prop} {E : Prop} (hgd : o.guard = none) (s x : Operand) (t : TypeId)
    (ho : o.op = .call { callee := .builtin .append, args := #[s, x], argTypes := #[t, t] })
    (base : Nat) (e : TypeId) (z : Value) (bytes : Nat) (hinfo : (P.info? e).map (fun i => (i.zero, i.size, i.bytes)) = some (some z, 1, bytes)) (ht : P.underlying t = some (.slice e)) (hzs : z.cells.size = 1)
    (v : Value) (n : Nat) (xs : List Value) (hs : a.eval s = v) (hown : w.ownsRow base e 1 v n xs)
    (A : Option Addr) (m c : Nat) (news : List Value) (hx : a.eval x = .slice A m c) (hl : news.length = m) (hr : Rd w A news) (h1 : ∀ u ∈ news, u.oneCell' = true)
    (h63 : n + m ≤ maxLen) (hbytes : (n + m) * bytes ≤ 140737488355328) (hbase : base ≤ w.heap.size)
    (h : ∀ A' c' w', w'.ownsRow base e 1 (.slice A' (n + m) c') (n + m) (xs ++ news) → w.grownBy w' v.ownBlock →
      ((Value.slice A' (n + m) c').ownBlock = v.ownBlock ∨ (Value.slice A' (n + m) c').ownBlock = some w.heap.size) → K (a.put o.dst (.slice A' (n + m) c')) w') :
    if Region.wanted o ys = true then Oper.wp P o a w K Q else E := by
  have hw : Region.wanted o ys = true := by simp [Region.wanted, hgd]
  rw [if_pos hw]
  obtain ⟨i, hi, hz, hsize, hby⟩ := info_parts hinfo
  exact wp_app w s x t ho base e i z bytes ht hi hz hsize hby hzs v n xs hs hown A m c news hx hl hr h1 h63 hbytes hbase h
/-- What the document's New hands back. -/
def RNewPost (D : List UInt8) (n : Nat) (w : World) (e : Ending) (w' : World) : Prop :=
  ∃ p g AD cD, e = .returned (.pointer (some ⟨p, 0, none⟩)) ∧ IsRo w' p g n AD cD D (List.replicate (n + 1) 0) ∧ Below w.heap.size w w' ∧ w.heap.size ≤ p ∧ w.heap.size ≤ g ∧ (∀ a, AD = some a → w.heap.size ≤ a.block)

/-- The append ahead of the make. -/
theorem rnew_fst {D : List UInt8} {n c1 : Nat} {w w1 : World} {A1 : Option Addr} (hD : D.length = n) (hl : n ≤ 100000) (ho1 : w1.ownsRow w.heap.size 5 1 (.slice A1 n c1) n (bv D)) (hb1 : Below w.heap.size w w1) :
    RNewPost D n w (.returned (.pointer (some ⟨w1.heap.size + 1, 0, none⟩))) ((w1.alloc (.cells (madeCells #[.int .i64 0] (n + 1)) 3)).alloc (.cells #[.slice A1 n c1, .slice (some ⟨w1.heap.size, 0, none⟩) (n + 1) (n + 1)] 52)) := by
  obtain ⟨_, _, hs, h1, h2⟩ := own_shape _ ho1
  injection hs with e1 e2 e3
  subst e1 e3
  have hl1 := ho1.lt
  have hsz : w.heap.size ≤ w1.heap.size := hb1.size
  refine ⟨w1.heap.size + 1, w1.heap.size, A1, c1, rfl, ⟨?_, (own_madeI w1 (n + 1) (by omega)).alloc _, ((Rd.of_own ho1).alloc _).alloc _, hD, ⟨h1, by simpa [maxLen] using h2⟩, fun a ha => ?_, fun a ha => ?_, fun a ha => ?_, by omega⟩, ?_, by omega, hsz, fun a ha => ?_⟩
  · have := heap_alloc_new (w1.alloc (.cells (madeCells #[.int .i64 0] (n + 1)) 3)) (.cells #[.slice A1 n c1, .slice (some ⟨w1.heap.size, 0, none⟩) (n + 1) (n + 1)] 52)
    simpa using this
  · have := (hl1 a.block (by rw [ha]; rfl)).2; omega
  · have := (hl1 a.block (by rw [ha]; rfl)).2; omega
  · have := (hl1 a.block (by rw [ha]; rfl)).2; simp; omega
  · exact Fr.below (((Fr.of_below hb1 NoS).alloc _).alloc _)
  · exact (hl1 a.block (by rw [ha]; rfl)).1
/-- The make ahead of the append. -/
theorem rnew_snd {D : List UInt8} {n c1 : Nat} {w w1 : World} {A1 : Option Addr} (hD : D.length = n) (hl : n ≤ 100000) (ho1 : w1.ownsRow (w.heap.size + 1) 5 1 (.slice A1 n c1) n (bv D)) (hb1 : Below (w.heap.size + 1) (w.alloc (.cells (madeCells #[.int .i64 0] (n + 1)) 3)) w1) :
    RNewPost D n w (.returned (.pointer (some ⟨w1.heap.size, 0, none⟩))) (w1.alloc (.cells #[.slice A1 n c1, .slice (some ⟨w.heap.size, 0, none⟩) (n + 1) (n + 1)] 52)) := by
  obtain ⟨_, _, hs, h1, h2⟩ := own_shape _ ho1
  injection hs with e1 e2 e3
  subst e1 e3
  have hl1 := ho1.lt
  have f1 := Fr.of_below (by simpa using hb1 : Below (w.alloc (.cells (madeCells #[.int .i64 0] (n + 1)) 3)).heap.size _ w1) NoS
  have hsz : w.heap.size + 1 ≤ w1.heap.size := by have := hb1.size; simpa using this
  have hrow := own_fr (own_madeI w (n + 1) (by omega)) f1 (fun _ _ x => x)
  refine ⟨w1.heap.size, w.heap.size, A1, c1, rfl, ⟨heap_alloc_new w1 _, hrow.alloc _, (Rd.of_own ho1).alloc _, hD, ⟨h1, by simpa [maxLen] using h2⟩, fun a ha => ?_, fun a ha => ?_, fun a ha => ?_, by omega⟩, ?_, by omega, Nat.le_refl _, fun a ha => ?_⟩
  · have := (hl1 a.block (by rw [ha]; rfl)).1; omega
  · have := (hl1 a.block (by rw [ha]; rfl)).2; omega
  · have := (hl1 a.block (by rw [ha]; rfl)).2; simp; omega
  · exact Fr.below ((((Fr.refl NoS w).alloc _).trans f1).alloc _)
  · have := (hl1 a.block (by rw [ha]; rfl)).1; omega

set_option maxRecDepth 100000 in
set_option maxHeartbeats 2000000 in
theorem rnew_any (D : List UInt8) (A : Option Addr) (n c : Nat) (w : World) (hn : D.length = n) (hr : Rd w A (bv D)) (hl : n ≤ 100000) :
    Calls Try.prog 11 #[.slice A n c] w (RNewPost D n w) := by
  have HM : ∀ w : World, (Instr.makeSlice 47 (.int .i64 ((n : Int) + 1)) (.int .i64 ((n : Int) + 1))).run Try.prog w = .ok (.slice (some ⟨w.heap.size, 0, none⟩) (n + 1) (n + 1)) (w.alloc (.cells (madeCells #[.int .i64 0] (n + 1)) 3)) := fun w => by
    have := run_make_row' (P := Try.prog) 47 3 (.int .i64 0) 8 Try.underlying47 infoI rfl .i64 .i64 (n + 1) (by omega) (by omega) w
    rwa [show ((n + 1 : Nat) : Int) = (n : Int) + 1 from by omega] at this
  have hwr : IntKind.i64.wrap ((n : Int) + 1) = (n : Int) + 1 := IntWalk.i64_in _ (by omega)
  have HR := Lib.hid hr
  have HD := Lib.hid hn
  clear hr hn
  go_enter Try.func11, Try.ntmps11
  go_wp2_with fail
  go_region_law (first
    | ((try simp only [Act.put, List.setIfInBounds_toArray, List.set_cons_zero, List.set_cons_succ]); (first | (refine step_appY rfl _ _ 22 rfl (w.heap.size + 1) 5 (.int .u8 0) 1 infoB Try.underlying22 rfl (.slice none 0 0) 0 [] rfl (World.ownsRow_nil _ _ _ _) A n c (bv D) rfl (by simp [HD.out]) (by first | exact HR.out | exact HR.out.alloc _ | exact HR.out.drew | exact (HR.out.alloc _).drew | exact HR.out.drew.alloc _) (bv_one D) (by unfold maxLen; omega) (by omega) ?_ ?_; focus (simp; done)) | (refine step_appY rfl _ _ 22 rfl w.heap.size 5 (.int .u8 0) 1 infoB Try.underlying22 rfl (.slice none 0 0) 0 [] rfl (World.ownsRow_nil _ _ _ _) A n c (bv D) rfl (by simp [HD.out]) (by first | exact HR.out | exact HR.out.alloc _ | exact HR.out.drew | exact (HR.out.alloc _).drew | exact HR.out.drew.alloc _) (bv_one D) (by unfold maxLen; omega) (by omega) ?_ ?_; focus (simp; done))); intro A1 c1 w1 ho1 hg1 _; replace ho1 := Lib.hid ho1; replace hg1 := Lib.hid hg1))
  all_goals (go_wp2_with fail)
  all_goals go_ret
  · exact rnew_fst HD.out hl (by simpa using ho1.out) ((Below.refl w.heap.size w).drew.grown hg1.out (Nat.le_refl _) (fun k hk => by simp [Value.ownBlock] at hk))
  · exact rnew_snd HD.out hl (by simpa using ho1.out) ((Below.refl (w.heap.size + 1) (w.alloc (.cells (madeCells #[.int .i64 0] (n + 1)) 3))).drew.grown hg1.out (by simp) (fun k hk => by simp [Value.ownBlock] at hk))
end Go.Proofs.Ytljpboikjhckiaa
