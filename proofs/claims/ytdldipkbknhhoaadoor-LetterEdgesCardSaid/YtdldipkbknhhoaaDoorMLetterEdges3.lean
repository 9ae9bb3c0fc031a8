/- What the proof of LetterEdges stands on, part 3: 4 texts of ours, one behind the other. -/
import Derived.OpenShut
import Derived.Deep.SlicePairs
import Derived.SizedLaws
import Derived.ProofKit
import Derived.ChangeOld
import Derived.ChangeSame
import Derived.LaidMore
import Derived.Test.YtdldipkbknhhoaaDoorMLetterEdges0
import Derived.Test.YtdldipkbknhhoaaDoorMLetterEdges1
import Derived.Test.YtdldipkbknhhoaaDoorMLetterEdges2
/- LetterEdges: it is true at every input. -/
namespace Go.Proofs.YtdldipkbknhhoaaDoor
open Go.RowKit

theorem fput_nil : fput [] = ([0, 0], 0) := by decide +kernel
theorem ltplain_bare (D : List UInt8) (h1 : 1 ≤ D.length) : ltplain [] D = (ltpart 1 [0, 0] ++ ltpart 0 D, 0) := by
  unfold ltplain
  rw [fput_nil, if_neg (by simp), if_neg (by omega)]
theorem ltpart_bare : (ltpart 1 [0, 0]).length = 4 := by decide +kernel
theorem vl_two {n : Int} (h : 64 ≤ n) (h2 : n < 16384) : vl n = 2 := by unfold vl vlen; rw [if_neg (by omega), if_pos h2]; rfl
theorem ltplain_long (D : List UInt8) (h1 : 64 ≤ D.length) (h2 : D.length < 16384) : (ltplain [] D).1.length = 7 + D.length := by
  rw [ltplain_bare D (by omega)]
  show (ltpart 1 [0, 0] ++ ltpart 0 D).length = _
  rw [List.length_append, ltpart_bare]
  unfold ltpart
  rw [List.length_append, List.length_append, vput_length, vput_length, vl_small (by omega), vl_two (by omega) (by omega)]
  omega
theorem edges_E (D : List UInt8) (n : Int) (v : Bool) (hn : bok n = true) (h1 : 64 ≤ D.length) (h2 : D.length < 16384) (hv : decide ((7 : Int) + D.length = n ∨ (7 : Int) + D.length ≤ n - 2) = v) : ltE [] D n = if v then 0 else 4 := by
  have h3 : (ltplain [] D).2 = 0 := by rw [ltplain_bare D (by omega)]
  unfold ltE
  rw [if_neg (by rw [hn]; simp), h3, if_neg (by simp), ltplain_long D h1 h2]
  have e : ltfits ((7 + D.length : Nat) : Int) n = v := by
    unfold ltfits
    rw [← hv]
    congr 1
  rw [e]
  cases v <;> simp
theorem small_E (n : Int) (hn : bok n = true) : ltE [] [1] n = 0 := by
  have h := of_decide_eq_true hn
  rcases h with rfl | rfl | rfl <;> decide +kernel
theorem nil_hs : ∀ f ∈ ([] : List Fd), f.name.size ≤ 1000000 ∧ f.value.size ≤ 1000000 := fun f h => by cases h
set_option maxRecDepth 100000 in
set_option maxHeartbeats 4000000 in
theorem edges_in (a0 a1 : Int) (k j n body : Nat) (w : World) (hbk : BK w) (hn : bok (n : Int) = true) (hj : j < 12) (hb : body + 12 = n + j) (hsh : Op.shift .shl .i64 256 .i64 (k : Int) = pure (.int .i64 (n : Int)))
    (L0 : Hid (∀ W : World, Calls Tryd.prog 18 #[.int .i64 a0, .int .i64 3] W fun e w' => e = .returned (.int .i64 k) ∧ W = w'))
    (L1 : Hid (∀ W : World, Calls Tryd.prog 18 #[.int .i64 a1, .int .i64 12] W fun e w' => e = .returned (.int .i64 j) ∧ W = w')) :
    Calls Tryd.prog 5 #[.int .i64 a0, .int .i64 a1] w fun e w' => e = .returned (.bool true) ∧ Below w.heap.size w w' := by
  have hbd := bok_bd hn
  have hD : (growl body 1).length = body := by simp [growl]
  obtain ⟨v, hv⟩ : ∃ v, decide ((7 : Int) + (growl body 1).length = n ∨ (7 : Int) + (growl body 1).length ≤ n - 2) = v := ⟨_, rfl⟩
  have hE := Lib.hid (edges_E (growl body 1) n v hn (by omega) (by omega) hv)
  have hsm := Lib.hid (small_E n hn)
  rw [hD] at hv
  have GR := Lib.hid (grow_any body 1 w (by omega) (by omega))
  obtain ⟨D, hDD⟩ : ∃ D, growl body 1 = D := ⟨_, rfl⟩
  rw [hDD] at hE GR hD
  have q0 : IntKind.i64.wrap ((n : Int) - 12) = (n : Int) - 12 := by rw [IntKind.wrap_i64]; omega
  have q1 : IntKind.i64.wrap ((n : Int) - 12 + (j : Int)) = (body : Int) := by rw [IntKind.wrap_i64]; omega
  have q2 : IntKind.i64.wrap ((7 : Int) + (body : Int)) = (7 : Int) + (body : Int) := by rw [IntKind.wrap_i64]; omega
  have q3 : IntKind.i64.wrap ((n : Int) - 2) = (n : Int) - 2 := by rw [IntKind.wrap_i64]; omega
  have hbb : body ≤ 1035 := by omega
  replace hb := Lib.hid hb
  replace hD := Lib.hid hD
  replace hn := Lib.hid hn
  replace hv := Lib.hid hv
  clear hDD
  go_enter Tryd.func5, Tryd.ntmps5
  go_wp2_with fail
  refine (L0.out _).mono ?_
  rintro e w' ⟨rfl, rfl⟩
  go_wp2_with fail
  refine (L1.out _).mono ?_
  rintro e w' ⟨rfl, rfl⟩
  go_wp2_with fail
  refine GR.out.mono ?_
  rintro e w1 ⟨X, x, rfl, o1, b1⟩
  have M0 : MR w1 [] D none 0 X body := ⟨Rd.nil _ _, Rd.of_own o1, rfl, hD.out, by omega, by omega, nil_hs⟩
  obtain ⟨g, hg⟩ : ∃ g, w1.heap.size = g := ⟨_, rfl⟩
  obtain ⟨w2, hw2⟩ : ∃ W, w1.alloc (.cells #[.slice none 0 0, .slice X body x] 25) = W := ⟨_, rfl⟩
  have M : Hid (Msg w2 g [] D none 0 0 X body x) := Lib.hid (by rw [← hw2]; exact M0.alloc hg)
  have bb : Hid (Below w.heap.size w w2) := Lib.hid (by rw [← hw2]; exact b1.alloc b1.size _)
  have hbk2 : Hid (BK w2) := Lib.hid (hbk.fr (Fr.of_below bb.out NoS) (fun x => x))
  have x0 := M.out.c0
  have x1 := M.out.c1
  rw [← hw2] at x0 x1
  replace hw2 := Lib.hid hw2
  clear M0 o1 b1 GR hbk L0 L1
  go_wp2_with fail
  rw [hw2.out]
  clear x0 x1
  have x0 := M.out.c0
  have x1 := M.out.c1
  obtain ⟨E, hEE⟩ : ∃ E : Int, (if v then 0 else 4) = E := ⟨_, rfl⟩
  rw [hEE] at hE
  refine (M.out.r.put hbk2.out n E hE.out).mono ?_
  rintro e w3 ⟨R, Y, r, y, rfl, hk, hR, hY, hky, hyy, hk2, b3⟩
  replace M := Lib.hid (M.out.below b3)
  replace hbk2 := Lib.hid (hbk2.out.below b3)
  replace bb := Lib.hid (bb.out.trans (b3.mono bb.out.size))
  replace hY := Lib.hid hY
  replace hk := Lib.hid hk
  replace hR := Lib.hid hR
  replace hEE := Lib.hid hEE
  clear b3 hw2 hg hsh x0 x1
  obtain ⟨g3, hg3⟩ : ∃ g, w3.heap.size = g := ⟨_, rfl⟩
  obtain ⟨w4, hw4⟩ : ∃ W, w3.alloc (.cells #[.int .u8 1] 5) = W := ⟨_, rfl⟩
  have b4 : Below w3.heap.size w3 w4 := by rw [← hw4]; exact (Below.refl _ w3).alloc (Nat.le_refl _) _
  have N4 : Hid (MR w4 [] [1] none 0 (some ⟨g3, 0, none⟩) 1) := Lib.hid ⟨Rd.nil _ _, by rw [← hw4]; exact Rd.freshAt hg3 (bv [1]) 5 rfl, rfl, rfl, by omega, by omega, nil_hs⟩
  replace M := Lib.hid (M.out.below b4)
  replace hbk2 := Lib.hid (hbk2.out.below b4)
  replace bb := Lib.hid (bb.out.trans (b4.mono bb.out.size))
  replace hY := Lib.hid (hY.out.below b4)
  clear b4
  replace hw4 := Lib.hid hw4
  go_wp2_with fail
  rw [hw4.out]
  refine (N4.out.put hbk2.out n 0 hsm.out).mono ?_
  rintro e w5 ⟨R5, Y5, r5, y5, rfl, hk5, hR5, _, _, _, _, b5⟩
  have hr5 : r5 = n := by have := (hR5.2 hsm.out).1; omega
  subst hr5
  replace M := Lib.hid (M.out.below b5)
  replace hbk2 := Lib.hid (hbk2.out.below b5)
  replace bb := Lib.hid (bb.out.trans (b5.mono bb.out.size))
  replace hY := Lib.hid (hY.out.below b5)
  have m0 := M.out.c0
  have m1 := M.out.c1
  clear b5 hR5 hk5 hw4 hg3 N4 hsm
  have t0 : ((r5 : Int) != (r5 : Int)) = false := bne_self_eq_false _
  cases v with
  | false =>
    have hv' := of_decide_eq_false hv.out
    have t1 : ((7 : Int) + (body : Int) != (r5 : Int)) = true := by rw [bne_iff_ne]; omega
    have t2 : decide ((r5 : Int) - 2 < (7 : Int) + (body : Int)) = true := decide_eq_true (by omega)
    have hE4 : E = 4 := hEE.out.symm
    subst hE4
    have hr0 : r = 0 := by rw [← hk.out, hR.out.1 (by rw [hE.out]; decide)]; rfl
    subst hr0
    clear hv hv' hE hR hk hb hn hD hEE hbd hbb hky hk2
    go_wp2_with fail
    refine (awake_any _ hbk2.out).mono ?_
    rintro e w6 ⟨rfl, b6⟩
    go_wp2_with fail
    go_ret
    exact ⟨rfl, bb.out.trans (b6.mono bb.out.size)⟩
  | true =>
    have hv' := of_decide_eq_true hv.out
    have hE0 : E = 0 := hEE.out.symm
    subst hE0
    have hr : r = r5 := by have := (hR.out.2 hE.out).1; have := hk.out; omega
    subst hr
    have hget := Lib.hid (lget_put (by have := hD.out; omega) hE.out hR.out)
    have hgo : Hid (Calls Tryd.prog 14 #[.slice Y r y] w5 (GetTo w5 [] D 0)) := Lib.hid (get_to R Y r y w5 hbk2.out hk.out hY.out hky hyy (by omega) [] D 0 hget.out)
    have tt : Hid ((7 : Int) + (body : Int) = (r : Int) ∨ ((7 : Int) + (body : Int) ≠ (r : Int) ∧ (7 : Int) + (body : Int) ≤ (r : Int) - 2)) := Lib.hid (by omega)
    clear hv hv' hE hR hk hb hn hEE hbd hky hk2 hget hY
    have key : ∃ x1 x2 : Bool, ((7 : Int) + (body : Int) != (r : Int)) = x1 ∧ decide ((r : Int) - 2 < (7 : Int) + (body : Int)) = x2 ∧ (x1 = false ∨ x2 = false) := by
      refine ⟨_, _, rfl, rfl, ?_⟩
      rcases tt.out with h | ⟨_, h⟩
      · exact .inl (by rw [h]; exact bne_self_eq_false _)
      · exact .inr (decide_eq_false (by omega))
    obtain ⟨x1, x2, t1, t2, t3⟩ := key
    have hx : (x1 = false) ∨ (x1 = true ∧ x2 = false) := by cases x1 <;> simp_all
    clear t3 tt
    rcases hx with rfl | ⟨rfl, rfl⟩
    all_goals
      go_wp2_with fail
      refine hgo.out.mono ?_
      rintro e w6 ⟨Z, z, U, u, rfl, hZ, hU, b6⟩
      rw [hD.out]
      simp only [List.length_nil]
      have Q0 : MR w6 [] D Z 0 U body := ⟨hZ, hU, rfl, hD.out, by omega, by omega, nil_hs⟩
      replace M := Lib.hid (M.out.below b6)
      replace hbk2 := Lib.hid (hbk2.out.below b6)
      replace bb := Lib.hid (bb.out.trans (b6.mono bb.out.size))
      obtain ⟨q, hq⟩ : ∃ q, w6.heap.size = q := ⟨_, rfl⟩
      obtain ⟨w7, hw7⟩ : ∃ W, w6.alloc (.cells #[.slice Z 0 z, .slice U body u] 25) = W := ⟨_, rfl⟩
      have b7 : Below w6.heap.size w6 w7 := by rw [← hw7]; exact (Below.refl _ w6).alloc (Nat.le_refl _) _
      have N7 : Hid (Msg w7 q [] D Z 0 z U body u) := Lib.hid (by rw [← hw7]; exact Q0.alloc hq)
      replace M := Lib.hid (M.out.below b7)
      replace hbk2 := Lib.hid (hbk2.out.below b7)
      replace bb := Lib.hid (bb.out.trans (b7.mono bb.out.size))
      clear m0 m1 hZ hU Q0 b6 b7 hgo
      have m0 := M.out.c0
      have m1 := M.out.c1
      have n0 := N7.out.c0
      have n1 := N7.out.c1
      rw [← hw7] at m0 m1 n0 n1
      have t5 : ((r : Int) == (r : Int)) = true := beq_self_eq_true _
      replace hw7 := Lib.hid hw7
      go_wp2_with fail
      rw [hw7.out]
      refine (N7.out.r.same M.out.r true (by simp)).mono ?_
      rintro e w8 ⟨rfl, b8⟩
      replace hbk2 := Lib.hid (hbk2.out.below b8)
      replace bb := Lib.hid (bb.out.trans (b8.mono bb.out.size))
      clear m0 m1 n0 n1 b8 N7
      go_wp2_with fail
      refine (awake_any _ hbk2.out).mono ?_
      rintro e w9 ⟨rfl, b9⟩
      go_wp2_with fail
      go_ret
      exact ⟨rfl, bb.out.trans (b9.mono bb.out.size)⟩
theorem edges_any (a0 a1 : Int) (w : World) (hbk : BK w) :
    Calls Tryd.prog 5 #[.int .i64 a0, .int .i64 a1] w fun e w' => e = .returned (.bool true) ∧ Below w.heap.size w w' := by
  obtain ⟨k, hk, L0⟩ := low_ex a0 3 (by omega) (by omega)
  obtain ⟨j, hj, L1⟩ := low_ex a1 12 (by omega) (by omega)
  rcases (by omega : k = 0 ∨ k = 1 ∨ k = 2) with rfl | rfl | rfl
  · exact edges_in a0 a1 0 j 256 (244 + j) w hbk (by decide) hj (by omega) rfl (Lib.hid L0) (Lib.hid L1)
  · exact edges_in a0 a1 1 j 512 (500 + j) w hbk (by decide) hj (by omega) rfl (Lib.hid L0) (Lib.hid L1)
  · exact edges_in a0 a1 2 j 1024 (1012 + j) w hbk (by decide) hj (by omega) rfl (Lib.hid L0) (Lib.hid L1)
end Go.Proofs.YtdldipkbknhhoaaDoor

/- A slice of api.Field that came in: how it reads; how long its strings may be. -/
namespace Go.Proofs.YtdldipkbknhhoaaDoor
open Go.ChangeShapes Go.WideShapes Go.ChangeAt Go.RowKit

theorem weightsAll_in {H : Type} {P : Program} {e : TypeId} {d : DataW H} {n : Nat} (hn : n ∈ d.weights P e) : ∀ {l : List (DataW H)}, d ∈ l → n ∈ DataW.weightsAll P e l
  | x :: l, h => by
    simp only [DataW.weightsAll, List.mem_append]
    rcases List.mem_cons.1 h with rfl | h
    · exact .inl hn
    · exact .inr (weightsAll_in hn h)
theorem open_recsF {H : Type} {enc : TypeId × Value → H} {P : Program} {w : World} {t e : TypeId} {f0 f1 : Field} {base : Nat} {a : Option Addr} {len cap : Nat} {d : DataW H} {ps : List MemPlace}
    (ht : P.underlying t = some (.slice e)) (he : P.underlying e = some (.struct #[f0, f1])) (ce : P.cellsOf e = 2) (o0 : f0.offset = 0) (o1 : f1.offset = 1) (c0 : P.cellsOf f0.type = 1) (c1 : P.cellsOf f1.type = 1)
    (s0 : P.underlying f0.type = some .string) (s1 : P.underlying f1.type = some .string) (hw : ∀ n ∈ d.weights P t, n ≤ reachBytes)
    (h : DataW.Trod enc P w base (fun _ => true) true t (.slice a len cap) d ps) :
    ∃ z : List Fd, z.length = len ∧ Rd w a (fdv z) ∧ len ≤ cap ∧ cap ≤ 9223372036854775807 ∧ ∀ x ∈ z, x.name.size ≤ reachBytes ∧ x.value.size ≤ reachBytes := by
  obtain ⟨fuel, hf⟩ := h
  rcases Go.Deep.open_slice_pairs ht he ce o0 o1 c0 c1 hf with ⟨hcs, _⟩ | ⟨a', len', cap', m, n, V0, V1, D0, D1, P0, P1, hcs, _, hl, hm, hmm, hd, hx⟩
  · simp [Value.cells] at hcs
    obtain ⟨rfl, rfl, rfl⟩ := hcs
    exact ⟨[], rfl, Rd.nil _ _, by omega, by omega, fun x hx => by cases hx⟩
  · simp [Value.cells] at hcs
    obtain ⟨rfl, rfl, rfl⟩ := hcs
    have hm' : len ≤ m := by rw [hmm]; simp only [if_true]; exact hl
    simp only [Prod.mk.injEq] at hd
    have each : ∀ i, i < len → ∃ f : Fd, w.cell? (a'.add (i * 2)) = some (.string f.name) ∧ w.cell? (a'.add (i * 2 + 1)) = some (.string f.value) ∧ f.name.size ≤ reachBytes ∧ f.value.size ≤ reachBytes := fun i hi => by
      obtain ⟨g0, g1, t0, t1⟩ := hx i (by omega)
      obtain ⟨q0, e0, x0, _⟩ := DataW.trod_string s0 t0
      obtain ⟨q1, e1, x1, _⟩ := DataW.trod_string s1 t1
      simp only [List.cons.injEq, and_true] at e0 e1
      simp only [Prod.mk.injEq] at x0 x1
      have hin : ∀ n, n ∈ (DataW.agg [D0 i, D1 i]).weights P e → n ≤ reachBytes := fun n hn => hw n (by
        rw [hd.1]
        simp only [DataW.weights, ht, List.mem_cons, List.mem_append]
        exact .inr (.inl (weightsAll_in hn (List.mem_map.2 ⟨i, List.mem_range.2 hi, rfl⟩))))
      refine ⟨⟨q0, q1⟩, by rw [g0, e0], by rw [g1, e1], ?_, ?_⟩
      · have := hin q0.data.toList.length (by simp [DataW.weights, he, DataW.weightsEach, x0.1])
        rwa [Array.length_toList] at this
      · have := hin q1.data.toList.length (by simp [DataW.weights, he, DataW.weightsEach, x1.1])
        rwa [Array.length_toList] at this
    obtain ⟨f, hf'⟩ : ∃ f : Nat → Fd, ∀ i, i < len → w.cell? (a'.add (i * 2)) = some (.string (f i).name) ∧ w.cell? (a'.add (i * 2 + 1)) = some (.string (f i).value) ∧ (f i).name.size ≤ reachBytes ∧ (f i).value.size ≤ reachBytes :=
      ⟨fun i => if hi : i < len then (each i hi).choose else ⟨.empty, .empty⟩, fun i hi => by simp only [dif_pos hi]; exact (each i hi).choose_spec⟩
    refine ⟨(List.range len).map f, by simp, fun hp => ?_, hl, by unfold maxLen at hm; omega, fun x hx => ?_⟩
    · simp at hp
      have h0 := (hf' 0 hp).1
      obtain ⟨b, off, spot⟩ := a'
      have hspot : spot = none := by simpa [Addr.add] using World.cell?_spot h0
      subst hspot
      refine ⟨b, off, rfl, fun j u hu => ?_⟩
      have hj : j < len * 2 := by have := (List.getElem?_eq_some_iff.1 hu).1; simpa using this
      have hz : ((List.range len).map f)[j / 2]? = some (f (j / 2)) := by rw [List.getElem?_map, List.getElem?_range (by omega)]; rfl
      rw [← WideShapes.add_plain]
      rcases (by omega : j % 2 = 0 ∨ j % 2 = 1) with h1 | h1
      · have h2 := rv_get Fd.cells fdc _ (j / 2) _ hz 0 (.string (f (j / 2)).name) rfl
        have h3 := (hf' (j / 2) (by omega)).1
        rw [show j / 2 * 2 + 0 = j by omega, hu] at h2
        rw [show j / 2 * 2 = j by omega] at h3
        rw [h3, h2]
      · have h2 := rv_get Fd.cells fdc _ (j / 2) _ hz 1 (.string (f (j / 2)).value) rfl
        have h3 := (hf' (j / 2) (by omega)).2.1
        rw [show j / 2 * 2 + 1 = j by omega, hu] at h2
        rw [show j / 2 * 2 + 1 = j by omega] at h3
        rw [h3, h2]
    · obtain ⟨i, hi, rfl⟩ := List.mem_map.1 hx
      exact (hf' i (List.mem_range.1 hi)).2.2
end Go.Proofs.YtdldipkbknhhoaaDoor

/- A slice of bytes, or of integers, that came in reads as a list. -/
namespace Go.Proofs.YtdldipkbknhhoaaDoor
open Go.RowKit

/-- A slice of bytes that came in reads as a list of bytes. -/
theorem row_u8 {w : World} {a : Option Addr} {len cap : Nat} {zs : List Int}
    (h : (a = none ∧ len = 0 ∧ cap = 0 ∧ zs = []) ∨ ∃ x, a = some x ∧ len ≤ cap ∧ cap ≤ maxLen ∧ zs.length = cap ∧ (∀ i, i < zs.length → w.cell? (x.add i) = some (.int .u8 (zs.getD i 0))) ∧ ∀ n ∈ zs, (Lit.int .u8 n).wf = true) :
    ∃ l : List UInt8, l.length = len ∧ Rd w a (bv l) ∧ l.length ≤ cap ∧ cap ≤ 9223372036854775807 := by
  rcases h with ⟨rfl, rfl, rfl, _⟩ | ⟨x, rfl, hl, hm, hz, hc, hw⟩
  · exact ⟨[], rfl, Rd.nil _ _, by simp, by omega⟩
  · refine ⟨(zs.take len).map fun z => UInt8.ofNat z.toNat, by simp; omega, ?_, by simp; omega, by simpa [maxLen] using hm⟩
    intro hn
    have hn' : 0 < len := by simp at hn; omega
    obtain ⟨b, off, rfl, hcell⟩ := ints_at hc (by omega)
    refine ⟨b, off, rfl, fun k u hu => ?_⟩
    have hk : k < len := by
      have := (List.getElem?_eq_some_iff.1 hu).1
      simp at this; omega
    have hkz : k < zs.length := by omega
    rw [hcell k hkz]
    have hmem := hw zs[k] (List.getElem_mem hkz)
    have hb := bounds_u8 hmem
    have e : (bv ((zs.take len).map fun z => UInt8.ofNat z.toNat))[k]? = some (.int .u8 zs[k]) := by
      simp [bv, hk, hkz]
      omega
    rw [e] at hu
    injection hu with hu
    rw [← hu]
    simp [List.getD, hkz]

/-- A slice of numbers that came in reads as a list of them. -/
theorem row_int {k : IntKind} {w : World} {a : Option Addr} {len cap : Nat} {zs : List Int}
    (h : (a = none ∧ len = 0 ∧ cap = 0 ∧ zs = []) ∨ ∃ x, a = some x ∧ len ≤ cap ∧ cap ≤ maxLen ∧ zs.length = cap ∧ (∀ i, i < zs.length → w.cell? (x.add i) = some (.int k (zs.getD i 0))) ∧ ∀ n ∈ zs, (Lit.int k n).wf = true) :
    ∃ l : List Int, l.length = len ∧ Rd w a (l.map (Value.int k)) ∧ l.length ≤ cap ∧ cap ≤ 9223372036854775807 ∧ ∀ n ∈ l, (Lit.int k n).wf = true := by
  rcases h with ⟨rfl, rfl, rfl, _⟩ | ⟨x, rfl, hl, hm, hz, hc, hw⟩
  · exact ⟨[], rfl, Rd.nil _ _, by simp, by omega, by simp⟩
  · refine ⟨zs.take len, by simp; omega, ?_, by simp; omega, by simpa [maxLen] using hm, fun n hn => hw n (List.mem_of_mem_take hn)⟩
    intro hn
    have hn' : 0 < len := by simp at hn; omega
    obtain ⟨b, off, rfl, hcell⟩ := ints_at hc (by omega)
    refine ⟨b, off, rfl, fun j u hu => ?_⟩
    have hk : j < len := by
      have := (List.getElem?_eq_some_iff.1 hu).1
      simp at this; omega
    have hkz : j < zs.length := by omega
    rw [hcell j hkz]
    have e : ((zs.take len).map (Value.int k))[j]? = some (.int k zs[j]) := by simp [hk, hkz]
    rw [e] at hu
    injection hu with hu
    rw [← hu]
    simp [List.getD, hkz]

end Go.Proofs.YtdldipkbknhhoaaDoor

/- What the listed variable gives: the buckets' cells. A message that came in. -/
namespace Go.Proofs.YtdldipkbknhhoaaDoor
open Go.ChangeShapes Go.WideShapes Go.ChangeAt Go.RowKit

theorem gBuckets : Tryd.prog.globalNamed "mantilla/letter.buckets" = some 0 := by kernel_rfl
theorem tBuckets : (Tryd.prog.globals[0]?).map (·.type) = some 52 := by kernel_rfl
theorem bk_of_laid {W : World} (h : laidMet Tryd.prog [("mantilla/letter.buckets", Rows.laid_mantilla_letter_buckets)] W) : BK W := by
  obtain ⟨ps, ⟨g1, t1, cs1, f1, p1, q1, hg1, ht1, hv1, hd1, _, _⟩, _⟩ := h
  obtain rfl := Option.some.inj (gBuckets.symm.trans hg1)
  obtain rfl := Option.some.inj (tBuckets.symm.trans ht1)
  obtain ⟨xs, m1, rfl, hx1, hlen, hn3, hel⟩ := DataW.trod_array Tryd.underlying52 hd1
  have c3 : Tryd.prog.cellsOf 3 = 1 := by kernel_rfl
  simp only [Rows.laid_mantilla_letter_buckets, Prod.mk.injEq, DataW.agg.injEq] at hx1
  have h0 := hel 0 (by decide)
  have h1 := hel 1 (by decide)
  have h2 := hel 2 (by decide)
  match xs, hn3, hx1, h0, h1, h2 with
  | [x0, x1, x2], _, hx1, h0, h1, h2 =>
    simp only [List.map_cons, List.map_nil, List.cons.injEq] at hx1
    obtain ⟨k0, e0, y0, _⟩ := DataW.trod_int Tryd.underlying3 (show DataW.trod _ Tryd.prog W 0 _ false m1 3 _ = some x0 from h0)
    obtain ⟨k1, e1, y1, _⟩ := DataW.trod_int Tryd.underlying3 (show DataW.trod _ Tryd.prog W 0 _ false m1 3 _ = some x1 from h1)
    obtain ⟨k2, e2, y2, _⟩ := DataW.trod_int Tryd.underlying3 (show DataW.trod _ Tryd.prog W 0 _ false m1 3 _ = some x2 from h2)
    have z0 : k0 = 256 := by rw [y0] at hx1; simpa using hx1.1.1.symm
    have z1 : k1 = 512 := by rw [y1] at hx1; simpa using hx1.1.2.1.symm
    have z2 : k2 = 1024 := by rw [y2] at hx1; simpa using hx1.1.2.2.1.symm
    subst z0 z1 z2
    have hc := fun i => World.var?_cell hg1 hv1 i
    obtain ⟨l1⟩ := cs1
    rw [c3] at e0 e1 e2
    match l1, e0, e1, e2 with
    | c0 :: c1 :: c2 :: _, e0, e1, e2 =>
      simp at e0 e1 e2
      subst e0 e1 e2
      exact ⟨by simpa using hc 0, by simpa using hc 1, by simpa using hc 2⟩
end Go.Proofs.YtdldipkbknhhoaaDoor
