/- OutgoArrives: the walk. -/
import Derived.Test.YtljpboikjhckiaaOutN
import Derived.Test.YtljpboikjhckiaaCopy
namespace Go.Proofs.Ytljpboikjhckiaa
open Go.RowKit

theorem odone_false {n : Nat} {f : Nat → UInt8} (h : ∃ i, i ≤ n ∧ f i ≠ 3) : odone (mk n f) n = false := by
  unfold odone
  obtain ⟨i, hi, hne⟩ := h
  rw [Bool.and_eq_false_iff]
  by_cases hin : i = n
  · subst hin; right; rw [mk_end]; simpa using hne
  · left
    rw [decide_eq_false_iff_not]
    intro h0
    unfold cntNe at h0
    have := List.eq_nil_of_length_eq_zero h0
    rw [List.filter_eq_nil_iff] at this
    have h2 := this (f i) (by rw [mk_take]; exact List.mem_map_of_mem (List.mem_range.2 (by omega)))
    simp at h2
    exact hne h2
/-- Between two rounds. -/
structure ArrSt (D : List UInt8) (n : Nat) (i : Nat) (f : Nat → UInt8) (G : List UInt8) (ended : Bool) : Prop where
  calm : Calm n f
  owe : owed n f + (i - 60) ≤ n + 1
  len : G.length = n
  is : ∀ j, j < n → f j = 3 → G[j]? = D[j]?
  endd : f n = 3 → ended = true
theorem arr_start (D : List UInt8) (n : Nat) : ArrSt D n 0 (fun _ => 0) (List.replicate n 0) false :=
  ⟨fun _ _ => .inl rfl, by have := owed_le n (fun _ => 0); omega, by simp, fun j _ h => absurd h (by decide), fun h => absurd h (by decide)⟩
theorem arr_lost {D G : List UInt8} {n i a m : Nat} {f : Nat → UInt8} {ended e : Bool} (h : ArrSt D n i f G ended) (hi : i < 60) (ham : a + m ≤ n) (h1 : ∀ j, a ≤ j → j < a + m → f j ≠ 3) (h2 : e = true → f n ≠ 3) : ArrSt D n (i + 1) (upd n a m e 2 f) G ended := by
  refine ⟨calm_upd h.calm (.inl rfl), by have := owed_lost (n := n) (a := a) (m := m) (e := e) (f := f) h1 h2; have := h.owe; omega, h.len, fun j hj hf => ?_, fun hf => ?_⟩
  · unfold upd at hf
    split at hf
    · exact absurd hf (by decide)
    · split at hf
      · exact absurd hf (by decide)
      · exact h.is j hj hf
  · unfold upd at hf
    split at hf
    · exact absurd hf (by decide)
    · split at hf
      · exact absurd hf (by decide)
      · exact h.endd hf
theorem arr_there {D G : List UInt8} {n i a m : Nat} {f : Nat → UInt8} {ended e : Bool} (h : ArrSt D n i f G ended) (hD : D.length = n) (ham : a + m ≤ n) (hme : 1 ≤ m ∨ e = true) (h1 : ∀ j, a ≤ j → j < a + m → f j ≠ 3) (h2 : e = true → f n ≠ 3) :
    ArrSt D n (i + 1) (upd n a m e 3 f) (G.take a ++ (D.drop a).take m ++ G.drop (a + m)) (ended || e) := by
  have hlm : ((D.drop a).take m).length = m := by simp; omega
  have hla : (G.take a).length = a := by have := h.len; simp; omega
  refine ⟨calm_upd h.calm (.inr rfl), by have := owed_there (n := n) (a := a) (m := m) (e := e) (f := f) ham hme h1 h2; have := h.owe; omega, by have := h.len; simp; omega, fun j hj hf => ?_, fun hf => ?_⟩
  · by_cases hja : j < a
    · rw [List.append_assoc, List.getElem?_append_left (by omega), List.getElem?_take_of_lt hja]
      refine h.is j hj ?_
      unfold upd at hf
      rwa [if_neg (by omega), if_neg (by omega)] at hf
    · by_cases hjm : j < a + m
      · rw [List.append_assoc, List.getElem?_append_right (by omega), hla, List.getElem?_append_left (by omega), List.getElem?_take_of_lt (by omega), List.getElem?_drop, show a + (j - a) = j from by omega]
      · rw [List.append_assoc, List.getElem?_append_right (by omega), hla, List.getElem?_append_right (by omega), hlm, List.getElem?_drop, show a + m + (j - a - m) = j from by omega]
        refine h.is j hj ?_
        unfold upd at hf
        rwa [if_neg (by omega), if_neg (by omega)] at hf
  · unfold upd at hf
    rw [if_neg (by omega)] at hf
    split at hf
    · rename_i hc; rw [hc.2, Bool.or_true]
    · rw [h.endd hf, Bool.true_or]
theorem arr_end {D G : List UInt8} {n i : Nat} {f : Nat → UInt8} {ended : Bool} (h : ArrSt D n i f G ended) (hD : D.length = n) (h0 : owed n f = 0) : G = D ∧ ended = true := by
  refine ⟨?_, h.endd (owed_zero h0 n (Nat.le_refl _))⟩
  apply List.ext_getElem?
  intro j
  by_cases hj : j < n
  · exact h.is j hj (owed_zero h0 j (by omega))
  · rw [List.getElem?_eq_none (by have := h.len; omega), List.getElem?_eq_none (by omega)]
theorem rd_heap {w : World} {q : Nat} {l : List UInt8} (h : w.heap[q]? = some (.cells (bv l).toArray 5 (0, 0))) : Rd w (some ⟨q, 0, none⟩) (bv l) := fun _ =>
  ⟨q, 0, rfl, fun k u hu => by rw [Nat.zero_add, cell_of_row w q k _ _ (0, 0) h]; simpa using hu⟩
set_option maxRecDepth 100000 in
set_option maxHeartbeats 16000000 in
theorem arrives_in (D : List UInt8) (A : Option Addr) (n cap : Nat) (room0 : Int) (lost : Int) (r0 : Nat) (w : World) (hDl : Hid (D.length = n)) (hr : Rd w A (bv D)) (hnil : A = none → cap = 0) (hc : n ≤ cap) (hcm : cap ≤ 9223372036854775807) (h0 : n ≤ 200) (hr0 : r0 < 50) (hl0 : 0 ≤ lost) (hl1 : lost ≤ 18446744073709551615)
    (D1 : Hid (∀ w : World, Calls Try.prog 24 #[.int .i64 room0, .int .i64 50] w fun e w' => e = .returned (.int .i64 r0) ∧ w = w')) :
    Calls Try.prog 4 #[.slice A n cap, .int .i64 room0, .int .u64 lost] w fun e w' => e = .returned (.bool true) ∧ Below w.heap.size w w' := by
  obtain ⟨R, hR⟩ : ∃ R : Nat, (1 : Int) + r0 = R := ⟨1 + r0, by omega⟩
  have hRb : 1 ≤ R ∧ R ≤ 50 := by omega
  replace hR := Lib.hid hR
  have HM : ∀ w : World, (Instr.makeSlice 22 (.int .i64 (n : Int)) (.int .i64 (n : Int))).run Try.prog w = .ok (.slice (some ⟨w.heap.size, 0, none⟩) n n) (w.alloc (.cells (madeCells #[.int .u8 0] n) 5)) := fun w =>
    run_make_row' (P := Try.prog) 22 5 (.int .u8 0) 1 Try.underlying22 infoB rfl .i64 .i64 n (by omega) (by omega) w
  have HR := Lib.hid hr
  clear hr
  go_enter Try.func4, Try.ntmps4
  go_wp2_with fail
  refine (D1.out _).mono ?_
  rintro e w' ⟨rfl, rfl⟩
  go_wp2_with fail
  rw [hR.out]
  refine (onew_at w.heap.size w w D A n cap hDl.out (Below.refl _ _) (Nat.le_refl _) HR.out hnil (by omega)).mono ?_
  rintro e w2 ⟨p, g, AD, cD, rfl, I2, -, -, -, hAl⟩
  rw [mk_zero] at I2
  obtain ⟨q, hq⟩ : ∃ q, w2.heap.size = q := ⟨_, rfl⟩
  have hpq : p < q ∧ g < q := by have := I2.is.lt; omega
  have hAq : Hid (∀ a, AD = some a → a.block < q) := Lib.hid (fun a ha => by have := hAl a ha; omega)
  replace hAl := Lib.hid hAl
  have hG0 : Hid ((w2.alloc (.cells (madeCells #[.int .u8 0] n) 5)).heap[q]? = some (.cells (bv (List.replicate n 0)).toArray 5 (0, 0))) := Lib.hid (by
    rw [← hq, heap_alloc_new]
    congr 2
    apply Array.ext'
    rw [toList_madeCells_one]
    simp [bv])
  have I3 := Lib.hid (I2.alloc (.cells (madeCells #[.int .u8 0] n) 5))
  replace hq := Lib.hid hq
  clear I2
  go_wp2_with fail
  rw [hq.out]
  go_loopw [9, 10] (fun en i wr => ∃ (k : Nat) (f : Nat → UInt8) (G : List UInt8) (ended : Bool), k ≤ 500 ∧ i = .int .i64 k ∧ en = .bool ended ∧ ArrSt D n k f G ended ∧ OutAt w.heap.size w wr p g n AD cD D (mk n f) ∧ wr.heap[q]? = some (.cells (bv G).toArray 5 (0, 0))) (fun _ i _ => 500 - (intOf i).toNat)
  case atStart => exact ⟨0, _, _, false, by omega, rfl, rfl, arr_start D n, I3.out, hG0.out⟩
  case round =>
    obtain ⟨k, f, G, ended, hk, rfl, rfl, ST, I4, hG⟩ := hrel
    clear I3 hG0
    have hk5 : k < 500 := by have := ST.owe; omega
    by_cases ho : owed n f = 0
    · have hall := owed_zero ho
      have hdt := Lib.hid (mk_done (n := n) (f := f) hall)
      obtain ⟨rfl, rfl⟩ := arr_end ST hDl.out ho
      replace hall := Lib.hid hall
      replace ho := Lib.hid ho
      replace ST := Lib.hid ST
      have hd5 : decide ((k : Int) < 500) = true := decide_eq_true (by omega)
      go_wp2_with fail
      refine (odone_at I4 true hdt.out).mono ?_
      rintro e w5 ⟨rfl, qs⟩
      have I5 := I4.still qs
      have hG5 := Lib.hid (rd_heap (by rw [qs.heap]; exact hG))
      replace hG := Lib.hid hG
      clear qs I4
      go_wp2_with fail
      refine (odone_at I5 true hdt.out).mono ?_
      rintro e w6 ⟨rfl, qs⟩
      have I6 := I5.still qs
      have hG6 := Lib.hid (qs.rd hG5.out)
      clear qs I5
      go_wp2_with fail
      refine (same_eq G n (some ⟨q, 0, none⟩) A n cap _ hDl.out hG6.out (HR.out.below I6.bel) (by omega)).mono ?_
      rintro e w7 ⟨rfl, qs⟩
      have I7 := I6.still qs
      clear qs I6
      go_wp2_with fail
      refine (awake_any _).mono ?_
      rintro e w9 ⟨rfl, hb9⟩
      go_wp2_with fail
      go_ret
      exact ⟨rfl, (I7.below hb9).bel⟩
    · have hex := owed_pos (n := n) (f := f) (by omega)
      have hdf := Lib.hid (odone_false hex)
      obtain ⟨a, m, eb, ham, hme, hmr, hea, hnx, hn3, he3⟩ := arr_next (D := D) (room := R) ST.calm (by omega) hex
      replace hnx := Lib.hid hnx
      replace hn3 := Lib.hid hn3
      replace he3 := Lib.hid he3
      replace ST := Lib.hid ST
      replace hme := Lib.hid hme
      replace hG := Lib.hid hG
      replace ho := Lib.hid ho
      replace hex := Lib.hid hex
      have hlm : Hid (((D.drop a).take m).length = m) := Lib.hid (by have := hDl.out; simp; omega)
      obtain ⟨mn, hmn⟩ : ∃ mn : Nat, (mn : Int) = min (R : Int) ((n : Int) - a) := ⟨min R (n - a), by omega⟩
      have hmnb : m ≤ mn ∧ mn ≤ 50 := by omega
      have M1 := fun ts t w => run_min2 (P := Try.prog) R ((n : Int) - a) mn hmn ts t w
      replace hmn := Lib.hid hmn
      have hd5 : decide ((k : Int) < 500) = true := decide_eq_true (by omega)
      go_wp2_with fail
      refine (odone_at I4 false hdf.out).mono ?_
      rintro e w5 ⟨rfl, qs⟩
      have I5 := I4.still qs
      have hG5 : Hid (w5.heap[q]? = some (.cells (bv G).toArray 5 (0, 0))) := Lib.hid (by rw [qs.heap]; exact hG.out)
      clear qs I4 hG
      go_wp2_with fail
      refine (onext_at I5 R n a ((D.drop a).take m) m eb true _ (by omega) (by omega) (by omega) (by omega) hlm.out hnx.out).mono ?_
      rintro r w6 ⟨A6, c6, rfl, ho6, I6, hF6⟩
      have R6 := Lib.hid (Rd.of_own ho6)
      have hG6 : Hid (w6.heap[q]? = some (.cells (bv G).toArray 5 (0, 0))) := Lib.hid (heap_fr hG5.out hF6 (by omega))
      clear I5 hG5 ho6 hF6
      have hal : a ≤ n := by omega
      have hen : ((a : Int) + m != (n : Int)) = !decide (a + m = n) := by
        rw [Bool.eq_iff_iff, bne_iff_ne]; simp; omega
      obtain ⟨X, K, qX⟩ := cut_l (P := Try.prog) Try.underlying22 infoB (some ⟨q, 0, none⟩) n n a hal (Nat.le_refl _)
      replace qX := Lib.hid qX
      have hdn : eb = true → decide (a + m = n) = true := fun h => decide_eq_true (hea h)
      replace hea := Lib.hid hea
      have hb2 : Hid ((bits BinOp.and IntKind.u64 (lost / 2 ^ k) 1 == 1) = true ∨ (bits BinOp.and IntKind.u64 (lost / 2 ^ k) 1 == 1) = false) := Lib.hid (by cases (bits BinOp.and IntKind.u64 (lost / 2 ^ k) 1 == 1) <;> simp)
      have hb2 : Hid ((bits BinOp.and IntKind.u64 (lost / 2 ^ k) 1 == 1) = true ∨ (bits BinOp.and IntKind.u64 (lost / 2 ^ k) 1 == 1) = false) := Lib.hid (by cases (bits BinOp.and IntKind.u64 (lost / 2 ^ k) 1 == 1) <;> simp)
      have hBq : Hid (w.heap.size ≤ q) := Lib.hid (by have := I6.bp; omega)
      have hAq2 : Hid (∀ x, AD = some x → ¬ x.block = q) := Lib.hid (fun x hx => by have := hAq.out x hx; omega)
      have hdp : Hid (0 < m → X = some ⟨q, a, none⟩) := Lib.hid (fun hp => by rw [qX.out.eq (by omega)]; simp [WideShapes.add_plain])
      have hfit : Hid (a + m ≤ G.length) := Lib.hid (by rw [ST.out.len]; exact ham)
      have hT2 : Hid (oturn (mk n (upd n a m eb 1 f)) n a m eb 2 [1] = mk n (upd n a m eb 2 f)) := Lib.hid (arr_turn ST.out.calm ham 2 [1] (by decide) (by decide) (fun i _ h => absurd h (by decide)))
      have hT3 : Hid (oturn (mk n (upd n a m eb 1 f)) n a m eb 3 [1, 2] = mk n (upd n a m eb 3 f)) := Lib.hid (arr_turn ST.out.calm ham 3 [1, 2] (by decide) (by decide) (fun i _ _ hu hx => by
        unfold upd at hu
        rcases hx with hx | hx
        · rw [if_pos hx] at hu; exact absurd hu (by decide)
        · by_cases hy : a ≤ i ∧ i < a + m
          · rw [if_pos hy] at hu; exact absurd hu (by decide)
          · rw [if_neg hy, if_pos hx] at hu; exact absurd hu (by decide)))
      have hSL : Hid (k < 60 → ArrSt D n (k + 1) (upd n a m eb 2 f) G ended) := Lib.hid (fun h => arr_lost ST.out h ham hn3.out he3.out)
      have hST := Lib.hid (arr_there (e := eb) ST.out hDl.out ham hme.out hn3.out he3.out)
      clear he3 hea hme
      by_cases hk6 : k < 60
      · cases eb with
        | true =>
          rw [hdn rfl] at hen
          clear hdn
          rcases hb2.out with hbt | hbt
          · skip
            go_wp2_with fail
            refine (olost_at I6 a m true _ (by omega) (by omega) (by omega) (by omega) hT2.out).mono ?_
            rintro r w7 ⟨rfl, I7, hF7⟩
            have hG7 : w7.heap[q]? = some (.cells (bv G).toArray 5 (0, 0)) := heap_fr hG6.out hF7 (by omega)
            clear hF7 I6
            go_wp2_with fail
            go_roundw
            case rel => exact ⟨k + 1, _, G, ended, by omega, by go_num, rfl, hSL.out (by omega), I7, hG7⟩
            case measure => simp [intOf] <;> omega
          · cases ended with
            | true =>
              go_wp2_with (refine wpList_copyB rfl (.tmp 100) (.tmp 101) 22 22 rfl 5 Try.underlying22 (by kernel_rfl) X A6 (n - a) (n - a) m c6 (by rfl) (by rfl) q a G ((D.drop a).take m) 5 hG6.out hlm.out (by omega) hdp.out R6.out hfit.out ?_; intro w7 hG7 hF7)
              have I7 := I6.step hF7 (by omega) (by omega) hAq2.out (fun j hj _ => by subst hj; exact hBq.out)
              replace hG7 := Lib.hid hG7
              clear I6 hF7
              go_wp2_with fail
              refine (othere_at I7 a m true _ (by omega) (by omega) (by omega) (by omega) hT3.out).mono ?_
              rintro r w8 ⟨rfl, I8, hF8⟩
              have hG8 := heap_fr hG7.out hF8 (by omega)
              clear hF8 I7
              go_wp2_with fail
              go_roundw
              case rel => exact ⟨k + 1, _, _, _, by omega, by go_num, rfl, hST.out, I8, hG8⟩
              case measure => simp [intOf] <;> omega
            | false =>
              go_wp2_with (refine wpList_copyB rfl (.tmp 100) (.tmp 101) 22 22 rfl 5 Try.underlying22 (by kernel_rfl) X A6 (n - a) (n - a) m c6 (by rfl) (by rfl) q a G ((D.drop a).take m) 5 hG6.out hlm.out (by omega) hdp.out R6.out hfit.out ?_; intro w7 hG7 hF7)
              have I7 := I6.step hF7 (by omega) (by omega) hAq2.out (fun j hj _ => by subst hj; exact hBq.out)
              replace hG7 := Lib.hid hG7
              clear I6 hF7
              go_wp2_with fail
              refine (othere_at I7 a m true _ (by omega) (by omega) (by omega) (by omega) hT3.out).mono ?_
              rintro r w8 ⟨rfl, I8, hF8⟩
              have hG8 := heap_fr hG7.out hF8 (by omega)
              clear hF8 I7
              go_wp2_with fail
              go_roundw
              case rel => exact ⟨k + 1, _, _, _, by omega, by go_num, rfl, hST.out, I8, hG8⟩
              case measure => simp [intOf] <;> omega
        | false =>
          clear hen hdn
          rcases hb2.out with hbt | hbt
          · skip
            go_wp2_with fail
            refine (olost_at I6 a m false _ (by omega) (by omega) (by omega) (by omega) hT2.out).mono ?_
            rintro r w7 ⟨rfl, I7, hF7⟩
            have hG7 : w7.heap[q]? = some (.cells (bv G).toArray 5 (0, 0)) := heap_fr hG6.out hF7 (by omega)
            clear hF7 I6
            go_wp2_with fail
            go_roundw
            case rel => exact ⟨k + 1, _, G, ended, by omega, by go_num, rfl, hSL.out (by omega), I7, hG7⟩
            case measure => simp [intOf] <;> omega
          · cases ended with
            | true =>
              go_wp2_with (refine wpList_copyB rfl (.tmp 100) (.tmp 101) 22 22 rfl 5 Try.underlying22 (by kernel_rfl) X A6 (n - a) (n - a) m c6 (by rfl) (by rfl) q a G ((D.drop a).take m) 5 hG6.out hlm.out (by omega) hdp.out R6.out hfit.out ?_; intro w7 hG7 hF7)
              have I7 := I6.step hF7 (by omega) (by omega) hAq2.out (fun j hj _ => by subst hj; exact hBq.out)
              replace hG7 := Lib.hid hG7
              clear I6 hF7
              go_wp2_with fail
              refine (othere_at I7 a m false _ (by omega) (by omega) (by omega) (by omega) hT3.out).mono ?_
              rintro r w8 ⟨rfl, I8, hF8⟩
              have hG8 := heap_fr hG7.out hF8 (by omega)
              clear hF8 I7
              go_wp2_with fail
              go_roundw
              case rel => exact ⟨k + 1, _, _, _, by omega, by go_num, rfl, hST.out, I8, hG8⟩
              case measure => simp [intOf] <;> omega
            | false =>
              go_wp2_with (refine wpList_copyB rfl (.tmp 100) (.tmp 101) 22 22 rfl 5 Try.underlying22 (by kernel_rfl) X A6 (n - a) (n - a) m c6 (by rfl) (by rfl) q a G ((D.drop a).take m) 5 hG6.out hlm.out (by omega) hdp.out R6.out hfit.out ?_; intro w7 hG7 hF7)
              have I7 := I6.step hF7 (by omega) (by omega) hAq2.out (fun j hj _ => by subst hj; exact hBq.out)
              replace hG7 := Lib.hid hG7
              clear I6 hF7
              go_wp2_with fail
              refine (othere_at I7 a m false _ (by omega) (by omega) (by omega) (by omega) hT3.out).mono ?_
              rintro r w8 ⟨rfl, I8, hF8⟩
              have hG8 := heap_fr hG7.out hF8 (by omega)
              clear hF8 I7
              go_wp2_with fail
              go_roundw
              case rel => exact ⟨k + 1, _, _, _, by omega, by go_num, rfl, hST.out, I8, hG8⟩
              case measure => simp [intOf] <;> omega
      · cases eb with
        | true =>
          rw [hdn rfl] at hen
          clear hdn
          cases ended with
          | true =>
            go_wp2_with (refine wpList_copyB rfl (.tmp 100) (.tmp 101) 22 22 rfl 5 Try.underlying22 (by kernel_rfl) X A6 (n - a) (n - a) m c6 (by rfl) (by rfl) q a G ((D.drop a).take m) 5 hG6.out hlm.out (by omega) hdp.out R6.out hfit.out ?_; intro w7 hG7 hF7)
            have I7 := I6.step hF7 (by omega) (by omega) hAq2.out (fun j hj _ => by subst hj; exact hBq.out)
            replace hG7 := Lib.hid hG7
            clear I6 hF7
            go_wp2_with fail
            refine (othere_at I7 a m true _ (by omega) (by omega) (by omega) (by omega) hT3.out).mono ?_
            rintro r w8 ⟨rfl, I8, hF8⟩
            have hG8 := heap_fr hG7.out hF8 (by omega)
            clear hF8 I7
            go_wp2_with fail
            go_roundw
            case rel => exact ⟨k + 1, _, _, _, by omega, by go_num, rfl, hST.out, I8, hG8⟩
            case measure => simp [intOf] <;> omega
          | false =>
            go_wp2_with (refine wpList_copyB rfl (.tmp 100) (.tmp 101) 22 22 rfl 5 Try.underlying22 (by kernel_rfl) X A6 (n - a) (n - a) m c6 (by rfl) (by rfl) q a G ((D.drop a).take m) 5 hG6.out hlm.out (by omega) hdp.out R6.out hfit.out ?_; intro w7 hG7 hF7)
            have I7 := I6.step hF7 (by omega) (by omega) hAq2.out (fun j hj _ => by subst hj; exact hBq.out)
            replace hG7 := Lib.hid hG7
            clear I6 hF7
            go_wp2_with fail
            refine (othere_at I7 a m true _ (by omega) (by omega) (by omega) (by omega) hT3.out).mono ?_
            rintro r w8 ⟨rfl, I8, hF8⟩
            have hG8 := heap_fr hG7.out hF8 (by omega)
            clear hF8 I7
            go_wp2_with fail
            go_roundw
            case rel => exact ⟨k + 1, _, _, _, by omega, by go_num, rfl, hST.out, I8, hG8⟩
            case measure => simp [intOf] <;> omega
        | false =>
          clear hen hdn
          cases ended with
          | true =>
            go_wp2_with (refine wpList_copyB rfl (.tmp 100) (.tmp 101) 22 22 rfl 5 Try.underlying22 (by kernel_rfl) X A6 (n - a) (n - a) m c6 (by rfl) (by rfl) q a G ((D.drop a).take m) 5 hG6.out hlm.out (by omega) hdp.out R6.out hfit.out ?_; intro w7 hG7 hF7)
            have I7 := I6.step hF7 (by omega) (by omega) hAq2.out (fun j hj _ => by subst hj; exact hBq.out)
            replace hG7 := Lib.hid hG7
            clear I6 hF7
            go_wp2_with fail
            refine (othere_at I7 a m false _ (by omega) (by omega) (by omega) (by omega) hT3.out).mono ?_
            rintro r w8 ⟨rfl, I8, hF8⟩
            have hG8 := heap_fr hG7.out hF8 (by omega)
            clear hF8 I7
            go_wp2_with fail
            go_roundw
            case rel => exact ⟨k + 1, _, _, _, by omega, by go_num, rfl, hST.out, I8, hG8⟩
            case measure => simp [intOf] <;> omega
          | false =>
            go_wp2_with (refine wpList_copyB rfl (.tmp 100) (.tmp 101) 22 22 rfl 5 Try.underlying22 (by kernel_rfl) X A6 (n - a) (n - a) m c6 (by rfl) (by rfl) q a G ((D.drop a).take m) 5 hG6.out hlm.out (by omega) hdp.out R6.out hfit.out ?_; intro w7 hG7 hF7)
            have I7 := I6.step hF7 (by omega) (by omega) hAq2.out (fun j hj _ => by subst hj; exact hBq.out)
            replace hG7 := Lib.hid hG7
            clear I6 hF7
            go_wp2_with fail
            refine (othere_at I7 a m false _ (by omega) (by omega) (by omega) (by omega) hT3.out).mono ?_
            rintro r w8 ⟨rfl, I8, hF8⟩
            have hG8 := heap_fr hG7.out hF8 (by omega)
            clear hF8 I7
            go_wp2_with fail
            go_roundw
            case rel => exact ⟨k + 1, _, _, _, by omega, by go_num, rfl, hST.out, I8, hG8⟩
            case measure => simp [intOf] <;> omega
end Go.Proofs.Ytljpboikjhckiaa
