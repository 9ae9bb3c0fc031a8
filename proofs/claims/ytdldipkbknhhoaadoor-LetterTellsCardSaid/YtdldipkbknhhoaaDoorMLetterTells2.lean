/- What the proof of LetterTells stands on, part 2: 15 texts of ours, one behind the other. -/
import Derived.Deep.RegionHeld3
import Derived.Deep.QuietTactic
import Derived.BigQuiet
import Derived.Deep.CutRange
import Derived.Deep.Cut
import Derived.Deep.CutBlock
import Derived.ScopeJumps
import Derived.Deep.OwnRows
import Derived.Test.YtdldipkbknhhoaaDoorMLetterTells0
import Derived.Test.YtdldipkbknhhoaaDoorMLetterTells1
/- The document's fields.Line lays as ours. -/
namespace Go.Proofs.YtdldipkbknhhoaaDoor
open Go.RowKit

theorem fi_none {α : Type} {q : α → Bool} {l : List α} (h : ∀ (j : Nat) x, l[j]? = some x → q x = false) : l.findIdx? q = none := by
  rw [List.findIdx?_eq_none_iff]
  intro x hx
  obtain ⟨j, hj⟩ := List.mem_iff_getElem?.1 hx
  exact h j x hj
theorem fi_hit {α : Type} {q : α → Bool} {l : List α} {k : Nat} {x : α} (hx : l[k]? = some x) (hq : q x = true) (h : ∀ (j : Nat) y, j < k → l[j]? = some y → q y = false) : l.findIdx? q = some k := by
  obtain ⟨hk, e⟩ := List.getElem?_eq_some_iff.1 hx
  rw [List.findIdx?_eq_some_iff_getElem]
  refine ⟨hk, by rw [e]; exact hq, fun j hj => ?_⟩
  have := h j _ hj (List.getElem?_eq_getElem (by omega))
  rw [this]; simp
theorem fd_get (k : Nat) (hk : k < 16) : ∃ x : Fd, fixed[k]? = some x := ⟨fixed[k]'(by rw [show fixed.length = 16 from by decide]; exact hk), List.getElem?_eq_getElem _⟩
theorem fd_ge (k : Nat) (x : Fd) (h : fixed[k]? = some x) : k < 16 := by
  have := (List.getElem?_eq_some_iff.1 h).1
  rw [show fixed.length = 16 from by decide] at this
  exact this
set_option maxRecDepth 100000 in
set_option maxHeartbeats 8000000 in
theorem rlay_any (a b : ByteArray) (w : World) (ha : a.size ≤ 1000000) (hb : b.size ≤ 1000000) :
    Calls Tryd.prog 45 #[.agg #[.string a, .string b]] w (RetS 5 w (fline ⟨a, b⟩).length (bv (fline ⟨a, b⟩))) := by
  obtain ⟨g, hg⟩ : ∃ g, w.heap.size = g := ⟨_, rfl⟩
  obtain ⟨w1, hw1⟩ : ∃ W, w.alloc (.cells #[.string a, .string b] 47) = W := ⟨_, rfl⟩
  have b1 : Hid (Below w.heap.size w w1) := Lib.hid (by rw [← hw1]; exact (Below.refl _ w).alloc (Nat.le_refl _) _)
  have R1 : Hid (w1.heap[g]? = some (.cells #[.string a, .string b] 47 (0, 0))) := Lib.hid (by rw [← hw1, ← hg]; exact heap_alloc_new w _)
  replace hw1 := Lib.hid hw1
  replace hg := Lib.hid hg
  go_enter Tryd.func45, Tryd.ntmps45
  go_wp2_with fail
  rw [hw1.out, hg.out]
  refine (rfixed_far w1).mono ?_
  rintro e w2 ⟨t, rfl, ht, hfx, b2⟩
  have B2 := Lib.hid (b1.out.trans (b2.mono b1.out.size))
  have R2 := Lib.hid (heap_fr R1.out (Fr.of_below b2 NoS) (fun x => x))
  replace hfx := Lib.hid hfx
  clear R1 b1 b2 ht
  go_wp2_with fail
  go_loopw [4] (fun i W => ∃ k q : Nat, k ≤ 16 ∧ i = .int .i64 k ∧ W = w2.drewN q ∧ Hid (∀ j x, j < k → fixed[j]? = some x → x ≠ ⟨a, b⟩)) (fun i _ => 16 - (intOf i).toNat)
  case atStart => exact ⟨0, 0, by omega, rfl, rfl, Lib.hid (fun j x h => by omega)⟩
  case round =>
    obtain ⟨k, q, hk, rfl, rfl, hno⟩ := hrel
    have c0 := wrote_cell R2.out 0 _ rfl
    have c1 := wrote_cell R2.out 1 _ rfl
    by_cases hk16 : k < 16
    · rename_i aa
      clear aa
      have d0 : decide ((k : Int) < 16) = true := decide_eq_true (by omega)
      have k0 : (0 : Int) ≤ (k : Int) := by omega
      have k1 : (k : Int) < 16 := by omega
      obtain ⟨f, hf⟩ := fd_get k hk16
      obtain ⟨x0, x1⟩ := hfx.out k f.name f.value hf
      obtain ⟨fa, fb⟩ := f
      simp only at x0 x1
      by_cases he : (⟨fa, fb⟩ : Fd) = ⟨a, b⟩
      · obtain ⟨rfl, rfl⟩ : fa = a ∧ fb = b := by injection he with h1 h2; exact ⟨h1, h2⟩
        have hl : Hid (fline ⟨fa, fb⟩ = pput 192 6 k) := Lib.hid (by
          unfold fline
          rw [fi_hit hf (by simp) (fun j y hj hy => by simpa using hno.out j y hj hy)])
        replace hf := Lib.hid hf
        replace he := Lib.hid he
        clear hno
        have hwk : IntKind.u64.wrap (k : Int) = (k : Int) := by rw [IntKind.wrap_u64]; omega
        go_wp2_with fail
        go_big_quiet (fail)
        go_wp2_with fail
        have BW : Below w.heap.size w (w2.drewN (q + nq)) := ((Fr.of_below B2.out NoS).drewN (q + nq)).below
        refine (rpput_any [] 192 6 k none 0 _ (Rd.nil _ _) (by simp) (by omega) (by omega) (by omega) (by omega) (by omega) (by omega)).mono ?_
        intro e w6 h6
        replace h6 := retS_up h6 BW
        obtain ⟨A6, c6, rfl, o6, b6⟩ := h6
        replace o6 := Lib.hid o6
        replace b6 := Lib.hid b6
        clear BW hwk x0 x1
        go_wp2_with fail
        go_ret
        exact ⟨A6, c6, by rw [hl.out]; rfl, by rw [hl.out]; exact o6.out, b6.out⟩
      · have hne : (fa.toList == a.toList) = false ∨ (fa = a ∧ (fb.toList == b.toList) = false) := by
          by_cases e1 : fa = a
          · exact .inr ⟨e1, ba_list_ne (fun e2 => he (by rw [e1, e2]))⟩
          · exact .inl (ba_list_ne e1)
        have hno2 : Hid (∀ j x, j < k + 1 → fixed[j]? = some x → x ≠ ⟨a, b⟩) := Lib.hid (fun j x hj hx => by
          rcases Nat.lt_or_ge j k with h | h
          · exact hno.out j x h hx
          · have e : j = k := by omega
            subst e
            rw [hf] at hx
            injection hx with hx
            rw [← hx]; exact he)
        replace hf := Lib.hid hf
        replace he := Lib.hid he
        clear hno
        rcases hne with h0 | ⟨rfl, h0⟩
        · go_wp2_with fail
          go_big_quiet (fail)
          go_wp2_with fail
          go_roundw
          case rel => exact ⟨k + 1, q + nq, by omega, by go_num, rfl, hno2⟩
          case measure => simp [intOf]; omega
        · go_wp2_with fail
          go_big_quiet (fail)
          go_wp2_with fail
          go_roundw
          case rel => exact ⟨k + 1, q + nq, by omega, by go_num, rfl, hno2⟩
          case measure => simp [intOf]; omega
    · obtain rfl : k = 16 := by omega
      have d0 : decide (((16 : Nat) : Int) < 16) = false := by decide
      have d0' : decide ((16 : Int) < 16) = false := by decide
      have hl0 : Hid (fline ⟨a, b⟩ = fhead a ++ ptext 0 7 b.data.toList) := Lib.hid (by
        unfold fline
        rw [fi_none (fun j x hx => by simpa using hno.out j x (fd_ge j x hx) hx)])
      clear hno
      go_wp2_with fail
      clear d0 d0'
      go_loopw [5] (fun i W => ∃ k q2 : Nat, k ≤ 16 ∧ i = .int .i64 k ∧ W = w2.drewN q2 ∧ Hid (∀ j x, j < k → fixed[j]? = some x → x.name ≠ a)) (fun i _ => 16 - (intOf i).toNat)
      case atStart => exact ⟨0, q, by omega, rfl, rfl, Lib.hid (fun j x h => by omega)⟩
      case round =>
        obtain ⟨k, q2, hk, rfl, rfl, hno⟩ := hrel
        have BW : Hid (∀ n, Below w.heap.size w (w2.drewN n)) := Lib.hid (fun n => ((Fr.of_below B2.out NoS).drewN n).below)
        by_cases hk16 : k < 16
        · rename_i aa
          clear aa
          have d0 : decide ((k : Int) < 16) = true := decide_eq_true (by omega)
          have k0 : (0 : Int) ≤ (k : Int) := by omega
          have k1 : (k : Int) < 16 := by omega
          obtain ⟨f, hf⟩ := fd_get k hk16
          obtain ⟨x0, x1⟩ := hfx.out k f.name f.value hf
          obtain ⟨fa, fb⟩ := f
          simp only at x0 x1
          by_cases he : fa = a
          · subst he
            have hl : Hid (fhead fa = pput 80 4 k) := Lib.hid (by
              unfold fhead
              rw [fi_hit hf (by simp) (fun j y hj hy => by simpa using hno.out j y hj hy)])
            replace hf := Lib.hid hf
            have hwk : IntKind.u64.wrap (k : Int) = (k : Int) := by rw [IntKind.wrap_u64]; omega
            have hpl := pput_len 80 4 (k : Int)
            clear hno x1
            go_wp2_with fail
            go_big_quiet (fail)
            go_wp2_with fail
            obtain ⟨W, hW⟩ : ∃ W, (w2.drewN q2).drewN nq = W := ⟨_, rfl⟩
            have B3 : Hid (Below w.heap.size w W) := Lib.hid (by rw [← hW]; exact ((Fr.of_below (BW.out q2) NoS).drewN nq).below)
            have R3 : Hid (W.heap[g]? = some (.cells #[.string fa, .string b] 47 (0, 0))) := Lib.hid (by rw [← hW]; exact R2.out)
            have HS0 : Hid (W.cell? ⟨g, 1, none⟩ = some (.string b)) := Lib.hid (wrote_cell R3.out 1 _ rfl)
            have HSB : Hid (∀ V, Below W.heap.size W V → V.cell? ⟨g, 1, none⟩ = some (.string b)) := Lib.hid (fun V bV => wrote_cell (heap_fr R3.out (Fr.of_below bV NoS) (fun x => x)) 1 _ rfl)
            rw [hW]
            clear hW x0 c0 c1 BW R2 B2 hfx
            obtain ⟨P1, hP1⟩ : ∃ P1, pput 80 4 (k : Int) = P1 := ⟨_, rfl⟩
            obtain ⟨n1, hn1⟩ : ∃ n1, P1.length = n1 := ⟨_, rfl⟩
            have CP : Hid (∀ V, Calls Tryd.prog 61 #[.slice none 0 0, .int .u8 80, .int .i64 4, .int .u64 k] V (RetS 5 V n1 (bv P1))) := Lib.hid (fun V => by
              have h := rpput_any [] 80 4 k none 0 V (Rd.nil _ _) (by simp) (by omega) (by omega) (by omega) (by omega) (by omega) (by omega)
              rw [List.nil_append, hP1, hn1] at h
              exact h)
            obtain ⟨P2, hP2⟩ : ∃ P2, P1 ++ ptext 0 7 b.data.toList = P2 := ⟨_, rfl⟩
            obtain ⟨n2, hn2⟩ : ∃ n2, P2.length = n2 := ⟨_, rfl⟩
            rw [hP1, hn1] at hpl
            have CT : Hid (∀ V A' c', Rd V A' (bv P1) → Calls Tryd.prog 62 #[.slice A' n1 c', .int .u8 0, .int .i64 7, .string b] V (RetS 5 V n2 (bv P2))) := Lib.hid (fun V A' c' hV => by
              have h := rptext_any P1 0 7 b A' c' V hV (by omega) (by omega) (by omega) (by omega) (by omega) (by omega)
              rw [hP2, hn1, hn2] at h
              exact h)
            have hP3 : Hid (fline ⟨fa, b⟩ = P2) := Lib.hid (by rw [hl0.out, hl.out, hP1, hP2])
            replace hP1 := Lib.hid hP1
            replace hP2 := Lib.hid hP2
            replace hn1 := Lib.hid hn1
            replace hn2 := Lib.hid hn2
            go_region_held3 (fun V => V.cell? ⟨g, 1, none⟩ = some (.string b)) (first | assumption | exact HS0.out | exact HSB.out _ (by assumption))
              (first
                | (go_at_call 62; ((with_reducible refine (CT.out w6 A6 c6 r6.out).mono ?_); rintro e w7 ⟨A7, c7, rfl, o7, b7⟩; replace b7 : Below W.heap.size W w7 := b6.trans (b7.mono b6.size); replace o7 := Lib.hid (own_base (base2 := W.heap.size) o7 (fun q hq => by have := (o7.lt q hq).1; have := b6.size; omega))))
                | (go_at_call 61; ((with_reducible refine (CP.out _).mono ?_); rintro e w6 ⟨A6, c6, rfl, o6, b6⟩; replace b6 : Below W.heap.size W w6 := (Still.drew W).below.trans b6; have r6 := Lib.hid (Rd.of_own o6); clear o6)))
            rename_i hheld
            clear hheld
            replace b7 := Lib.hid b7
            clear CP CT HS0 HSB R3 b6 r6
            go_wp2_with fail
            go_ret
            have o8 := own_base (base2 := w.heap.size) o7.out (fun q hq => by have := (o7.out.lt q hq).1; have := B3.out.size; omega)
            rw [hP3.out, hn2.out]
            exact ⟨A7, c7, rfl, o8, B3.out.trans (b7.out.mono B3.out.size)⟩
          · have h0 := ba_list_ne he
            have hno2 : Hid (∀ j x, j < k + 1 → fixed[j]? = some x → x.name ≠ a) := Lib.hid (fun j x hj hx => by
              rcases Nat.lt_or_ge j k with h | h
              · exact hno.out j x h hx
              · have e : j = k := by omega
                subst e
                rw [hf] at hx
                injection hx with hx
                rw [← hx]; exact he)
            replace hf := Lib.hid hf
            replace he := Lib.hid he
            clear hno x1
            go_wp2_with fail
            go_big_quiet (fail)
            go_wp2_with fail
            go_roundw
            case rel => exact ⟨k + 1, q2 + nq, by omega, by go_num, rfl, hno2⟩
            case measure => simp [intOf]; omega
        · obtain rfl : k = 16 := by omega
          have d0 : decide (((16 : Nat) : Int) < 16) = false := by decide
          have d0' : decide ((16 : Int) < 16) = false := by decide
          have hl : Hid (fhead a = ptext 32 3 a.data.toList) := Lib.hid (by
            unfold fhead
            rw [fi_none (fun j x hx => by simpa using hno.out j x (fd_ge j x hx) hx)])
          clear hno
          go_upto_region 12 with fail
          obtain ⟨W, hW⟩ : ∃ W, w2.drewN q2 = W := ⟨_, rfl⟩
          have B3 : Hid (Below w.heap.size w W) := Lib.hid (by rw [← hW]; exact BW.out q2)
          have R3 : Hid (W.heap[g]? = some (.cells #[.string a, .string b] 47 (0, 0))) := Lib.hid (by rw [← hW]; exact R2.out)
          have HS0 : Hid (W.cell? ⟨g, 0, none⟩ = some (.string a) ∧ W.cell? ⟨g, 1, none⟩ = some (.string b)) := Lib.hid ⟨wrote_cell R3.out 0 _ rfl, wrote_cell R3.out 1 _ rfl⟩
          have HSB : Hid (∀ V, Below W.heap.size W V → V.cell? ⟨g, 0, none⟩ = some (.string a) ∧ V.cell? ⟨g, 1, none⟩ = some (.string b)) := Lib.hid (fun V bV => ⟨wrote_cell (heap_fr R3.out (Fr.of_below bV NoS) (fun x => x)) 0 _ rfl, wrote_cell (heap_fr R3.out (Fr.of_below bV NoS) (fun x => x)) 1 _ rfl⟩)
          rw [hW]
          clear hW c0 c1 BW R2 B2 hfx d0 d0'
          have hpl := ptext_len 32 3 a.data.toList
          rw [data_length] at hpl
          obtain ⟨P1, hP1⟩ : ∃ P1, ptext 32 3 a.data.toList = P1 := ⟨_, rfl⟩
          obtain ⟨n1, hn1⟩ : ∃ n1, P1.length = n1 := ⟨_, rfl⟩
          have CP : Hid (∀ V, Calls Tryd.prog 62 #[.slice none 0 0, .int .u8 32, .int .i64 3, .string a] V (RetS 5 V n1 (bv P1))) := Lib.hid (fun V => by
            have h := rptext_any [] 32 3 a none 0 V (Rd.nil _ _) (by simp) (by omega) (by omega) (by omega) (by omega) (by omega)
            rw [List.nil_append, hP1, hn1] at h
            exact h)
          obtain ⟨P2, hP2⟩ : ∃ P2, P1 ++ ptext 0 7 b.data.toList = P2 := ⟨_, rfl⟩
          obtain ⟨n2, hn2⟩ : ∃ n2, P2.length = n2 := ⟨_, rfl⟩
          rw [hP1, hn1] at hpl
          have CT : Hid (∀ V A' c', Rd V A' (bv P1) → Calls Tryd.prog 62 #[.slice A' n1 c', .int .u8 0, .int .i64 7, .string b] V (RetS 5 V n2 (bv P2))) := Lib.hid (fun V A' c' hV => by
            have h := rptext_any P1 0 7 b A' c' V hV (by omega) (by omega) (by omega) (by omega) (by omega) (by omega)
            rw [hP2, hn1, hn2] at h
            exact h)
          have hP3 : Hid (fline ⟨a, b⟩ = P2) := Lib.hid (by rw [hl0.out, hl.out, hP1, hP2])
          replace hP1 := Lib.hid hP1
          replace hP2 := Lib.hid hP2
          replace hn1 := Lib.hid hn1
          replace hn2 := Lib.hid hn2
          go_region_held3 (fun V => V.cell? ⟨g, 0, none⟩ = some (.string a) ∧ V.cell? ⟨g, 1, none⟩ = some (.string b)) (first | assumption | exact HS0.out | exact HSB.out _ (by assumption))
            (first
              | (go_at_call 62; ((with_reducible refine (CT.out w6 A6 c6 r6.out).mono ?_); rintro e w7 ⟨A7, c7, rfl, o7, b7⟩; replace b7 : Below W.heap.size W w7 := b6.trans (b7.mono b6.size); replace o7 := Lib.hid (own_base (base2 := W.heap.size) o7 (fun q hq => by have := (o7.lt q hq).1; have := b6.size; omega))))
              | (go_at_call 62; ((with_reducible refine (CP.out _).mono ?_); rintro e w6 ⟨A6, c6, rfl, o6, b6⟩; replace b6 : Below W.heap.size W w6 := (Still.drew W).below.trans b6; have r6 := Lib.hid (Rd.of_own o6); clear o6)))
          rename_i hheld
          clear hheld
          replace b7 := Lib.hid b7
          clear CP CT HS0 HSB R3 b6 r6
          go_wp2_with fail
          go_ret
          have o8 := own_base (base2 := w.heap.size) o7.out (fun q hq => by have := (o7.out.lt q hq).1; have := B3.out.size; omega)
          rw [hP3.out, hn2.out]
          exact ⟨A7, c7, rfl, o8, B3.out.trans (b7.out.mono B3.out.size)⟩
end Go.Proofs.YtdldipkbknhhoaaDoor

/- The document's fields.Put lays as ours. -/
namespace Go.Proofs.YtdldipkbknhhoaaDoor
open Go.RowKit

set_option maxRecDepth 100000 in
set_option maxHeartbeats 8000000 in
theorem rfput_any (fs : List Fd) (A : Option Addr) (cap n : Nat) (w : World) (hn : fs.length = n) (hr : Rd w A (fdv fs)) (hl : n ≤ 1000000) (hs : ∀ f ∈ fs, f.name.size ≤ 1000000 ∧ f.value.size ≤ 1000000) :
    Calls Tryd.prog 34 #[.slice A n cap] w (RetP w (fput fs)) := by
  have HR := Lib.hid hr
  have HS := Lib.hid hs
  have HN := Lib.hid hn
  obtain ⟨BB, hBB⟩ : ∃ BB, (decide (16 < fs.length) || fs.any (fun x => decide (400 < x.value.size))) = BB := ⟨_, rfl⟩
  have HP : Hid (fput fs = if BB then ([], 4) else if fs.all fok then (0 :: 0 :: flines fs, 0) else ([], 5)) := Lib.hid (by unfold fput; rw [hBB])
  have HV : Hid (BB = false → ∀ f ∈ fs, f.value.size ≤ 400) := Lib.hid (fun h f hf => by
    rw [h, Bool.or_eq_false_iff] at hBB
    have := List.any_eq_false.1 hBB.2 f hf
    simpa using this)
  obtain ⟨T, hT⟩ : ∃ T, decide ((16 : Int) < (n : Int)) = T := ⟨_, rfl⟩
  have HT : Hid (decide (16 < fs.length) = T) := Lib.hid (by rw [← hT, hn]; exact decide_eq_decide.2 (by omega))
  replace hBB := Lib.hid hBB
  have HTn : Hid (T = decide (16 < n)) := Lib.hid (by rw [← HT.out, hn])
  clear hr hn hs
  go_enter Tryd.func34, Tryd.ntmps34
  go_wp2_with fail
  go_loop [4, 5] (fun v i => ∃ (k : Nat) (V : Bool), k ≤ n ∧ i = .int .i64 k ∧ v = .bool V ∧ Hid ((T || (fs.take k).any (fun x => decide (400 < x.value.size))) = V)) (fun _ i => n - (intOf i).toNat)
  case atStart => exact ⟨0, T, by omega, rfl, rfl, Lib.hid (by simp)⟩
  case round =>
    obtain ⟨k, V, hk, rfl, rfl, hV⟩ := hrel
    by_cases hkn : k < n
    · rename_i aa
      clear aa
      have d0 : decide (k < n) = true := decide_eq_true hkn
      have d0i : decide ((k : Int) < (n : Int)) = true := decide_eq_true (by omega)
      have k0 : (0 : Int) ≤ (k : Int) := by omega
      have k1 : (k : Int) < (n : Int) := by omega
      obtain ⟨f, hf⟩ : ∃ f, fs[k]? = some f := ⟨_, List.getElem?_eq_getElem (by rw [HN.out]; exact hkn)⟩
      obtain ⟨hkl, hfe⟩ := List.getElem?_eq_some_iff.1 hf
      obtain ⟨b, off, rfl, x0, x1⟩ := load_fd HR.out hkl
      rw [hfe] at x0 x1
      have htk : fs.take (k + 1) = fs.take k ++ [f] := by rw [List.take_succ_eq_append_getElem hkl, hfe]
      have hfs := HS.out f (List.mem_of_getElem? hf)
      obtain ⟨fa, fb⟩ := f
      simp only at x0 x1 hfs
      obtain ⟨nb, hnb⟩ : ∃ nb, fb.size = nb := ⟨_, rfl⟩
      obtain ⟨G, hG⟩ : ∃ G, decide ((400 : Int) < (nb : Int)) = G := ⟨_, rfl⟩
      have hV2 : Hid ((T || (fs.take (k + 1)).any (fun x => decide (400 < x.value.size))) = (V || G)) := Lib.hid (by
        have e9 : decide ((400 : Int) < (nb : Int)) = decide (400 < nb) := decide_eq_decide.2 (by omega)
        rw [htk, List.any_append, ← Bool.or_assoc, hV.out, ← hG, e9]
        simp [hnb])
      clear hV htk hfs
      replace hf := Lib.hid hf
      replace hfe := Lib.hid hfe
      cases V
      · go_wp2_with fail
        go_round
        case rel => exact ⟨k + 1, G, by omega, by go_num, rfl, hV2⟩
        case measure => simp [intOf]; omega
      · go_wp2_with fail
        go_round
        case rel => exact ⟨k + 1, true, by omega, by go_num, rfl, hV2⟩
        case measure => simp [intOf]; omega
    · obtain rfl : n = k := by omega
      have d0 : decide (n < n) = false := by simp
      have d0i : decide ((n : Int) < (n : Int)) = false := by simp
      have hVB : BB = V := by
        have h := hV.out
        rw [List.take_of_length_le (by rw [HN.out]; exact Nat.le_refl _), ← HT.out, hBB.out] at h
        exact h
      subst hVB
      clear hV
      cases BB with
      | true =>
        go_wp2_with fail
        go_ret2
        rw [HP.out]
        exact ⟨none, 0, rfl, World.ownsRow_nil _ _ _ _, Below.refl _ _⟩
      | false =>
        have HVV := Lib.hid (HV.out (by first | rfl | trivial))
        replace HP : Hid (fput fs = if fs.all fok then (0 :: 0 :: flines fs, 0) else ([], 5)) := Lib.hid (by rw [HP.out]; rfl)
        have hn16 : n ≤ 16 := by
          have h := hBB.out
          rw [Bool.or_eq_false_iff, HN.out] at h
          have := of_decide_eq_false h.1
          omega
        have H0 : Hid (∀ cs, cs = (bv [0, 0]).toArray → (w.alloc (.cells cs 5)).ownsRow w.heap.size 5 1 (.slice (some ⟨w.heap.size, 0, none⟩) 2 2) 2 (bv ([0, 0] ++ flines (fs.take 0))) ∧ Below w.heap.size w (w.alloc (.cells cs 5))) := Lib.hid (fun cs hcs => by
          subst hcs
          exact ⟨World.ownsRow_lit w _ 2 (Nat.le_refl _) (by simp [maxLen]) rfl, (Below.refl _ w).alloc (Nat.le_refl _) _⟩)
        clear d0 d0i
        go_wp2_with fail
        have K0 := Lib.hid (H0.out _ rfl)
        clear H0
        go_loopw [6, 7] (fun v i wr => ∃ (k m c4 : Nat) (A4 : Option Addr), k ≤ n ∧ i = .int .i64 k ∧ v = .slice A4 m c4 ∧ Hid (([0, 0] ++ flines (fs.take k)).length = m ∧ (fs.take k).all fok = true ∧ wr.ownsRow w.heap.size 5 1 (.slice A4 m c4) m (bv ([0, 0] ++ flines (fs.take k))) ∧ Below w.heap.size w wr)) (fun _ i _ => n - (intOf i).toNat)
        case atStart => exact ⟨0, 2, 2, _, by omega, rfl, rfl, Lib.hid ⟨rfl, rfl, K0.out.1, K0.out.2⟩⟩
        case round =>
          clear K0
          obtain ⟨k, m, c4, A4, hk, rfl, rfl, HK⟩ := hrel
          obtain ⟨hm, hall, ho, hb⟩ := HK.out
          clear HK
          by_cases hkn : k < n
          · rename_i aa
            clear aa
            have d0 : decide (k < n) = true := decide_eq_true hkn
            have d0i : decide ((k : Int) < (n : Int)) = true := decide_eq_true (by omega)
            have k0 : (0 : Int) ≤ (k : Int) := by omega
            have k1 : (k : Int) < (n : Int) := by omega
            obtain ⟨f, hf⟩ : ∃ f, fs[k]? = some f := ⟨_, List.getElem?_eq_getElem (by rw [HN.out]; exact hkn)⟩
            obtain ⟨hkl, hfe⟩ := List.getElem?_eq_some_iff.1 hf
            obtain ⟨b, off, rfl, x0, x1⟩ := load_fd (HR.out.below hb) hkl
            rw [hfe] at x0 x1
            have hfm := List.mem_of_getElem? hf
            have hfs := HS.out f hfm
            have hfv := HVV.out f hfm
            have htk : fs.take (k + 1) = fs.take k ++ [f] := by rw [List.take_succ_eq_append_getElem hkl, hfe]
            obtain ⟨fa, fb⟩ := f
            simp only at x0 x1 hfs hfv
            have hn60 := @nameok_size fa
            obtain ⟨B1, hB1⟩ : ∃ B1, nameok fa = B1 := ⟨_, rfl⟩
            obtain ⟨B2, hB2⟩ : ∃ B2, valok fb = B2 := ⟨_, rfl⟩
            have hfk : fok ⟨fa, fb⟩ = (B1 && B2) := by unfold fok; rw [hB1, hB2]
            rw [hB1] at hn60
            have NM := Lib.hid (fun W => rname_any fa W hfs.1)
            have PL := Lib.hid (fun W => rval_any fb W hfs.2)
            rw [hB1] at NM
            rw [hB2] at PL
            have hno : (B1 && B2) = false → fput fs = ([], 5) := fun h => by
              rw [HP.out, if_neg]
              intro hh
              have := List.all_eq_true.1 hh _ hfm
              rw [hfk, h] at this; cases this
            have hlm : m ≤ 20000 := by
              have := flines_len (fs.take k) (fun g hg => ⟨nameok_size (by
                have := List.all_eq_true.1 hall g hg
                unfold fok at this
                rw [Bool.and_eq_true] at this
                exact this.1), HVV.out g (List.mem_of_mem_take hg)⟩)
              rw [List.length_append, List.length_take] at *
              simp only [List.length_cons, List.length_nil] at *
              omega
            replace hfm := Lib.hid hfm
            replace hf := Lib.hid hf
            replace hfe := Lib.hid hfe
            replace htk := Lib.hid htk
            replace hB1 := Lib.hid hB1
            replace hB2 := Lib.hid hB2
            replace hm := Lib.hid hm
            replace hall := Lib.hid hall
            replace ho := Lib.hid ho
            replace hb := Lib.hid hb
            cases B1
            · have hp5 := Lib.hid (hno rfl)
              clear hno hn60 hfk
              go_wp2_with fail
              refine (NM.out _).mono ?_
              rintro e w2 ⟨rfl, rfl⟩
              go_wp2_with fail
              go_ret2
              rw [hp5.out]
              exact ⟨none, 0, rfl, World.ownsRow_nil _ _ _ _, hb.out⟩
            · cases B2
              · have hp5 := Lib.hid (hno rfl)
                clear hno hn60 hfk
                go_wp2_with fail
                refine (NM.out _).mono ?_
                rintro e w2 ⟨rfl, rfl⟩
                go_wp2_with fail
                refine (PL.out _).mono ?_
                rintro e w2 ⟨rfl, rfl⟩
                go_wp2_with fail
                go_ret2
                rw [hp5.out]
                exact ⟨none, 0, rfl, World.ownsRow_nil _ _ _ _, hb.out⟩
              · have hll := pline_len ⟨fa, fb⟩ (hn60 rfl) hfv
                have hall2 : Hid ((fs.take (k + 1)).all fok = true) := Lib.hid (by rw [htk.out, List.all_append, hall.out]; simp [hfk])
                have hfl : Hid ([0, 0] ++ flines (fs.take (k + 1)) = [0, 0] ++ flines (fs.take k) ++ fline ⟨fa, fb⟩) := Lib.hid (by rw [htk.out, flines_snoc, List.append_assoc])
                obtain ⟨q, hq⟩ : ∃ q, (fline ⟨fa, fb⟩).length = q := ⟨_, rfl⟩
                have LN := Lib.hid (fun W => rlay_any fa fb W hfs.1 hfs.2)
                rw [hq] at LN hll
                have hm2 : Hid (([0, 0] ++ flines (fs.take (k + 1))).length = m + q) := Lib.hid (by rw [hfl.out, List.length_append, hm.out, hq])
                clear hno hn60 hfk
                replace hq := Lib.hid hq
                go_wp2_with fail
                refine (NM.out _).mono ?_
                rintro e w2 ⟨rfl, rfl⟩
                go_wp2_with fail
                refine (PL.out _).mono ?_
                rintro e w2 ⟨rfl, rfl⟩
                go_wp2_with fail
                refine (LN.out _).mono ?_
                rintro e w3 ⟨A5, c5, rfl, o5, b5⟩
                have o3 := Lib.hid (own_fr ho.out (Fr.of_below b5 NoS) (fun _ _ x => x))
                have r5 := Lib.hid (Rd.of_own o5)
                have b3 := Lib.hid (hb.out.trans (b5.mono hb.out.size))
                clear o5 b5 ho hb LN NM PL
                go_wp2_with (at_builtin; refine wpList_app _ rfl _ _ 23 rfl w.heap.size 5 (.int .u8 0) 1 infoB Tryd.underlying23 rfl (.slice A4 m c4) m (bv ([0, 0] ++ flines (fs.take k))) rfl o3.out A5 q c5 (bv (fline ⟨fa, fb⟩)) rfl (by rw [bv_length]; exact hq.out) r5.out (bv_one _) (by unfold maxLen; omega) (by omega) b3.out.size ?_; intro A6 c6 w6 ho6 hg6 _; rw [← bv_append, ← hfl.out] at ho6; have b6 := Lib.hid (Fr.under b3.out b3.out.size ((Fr.refl (fun q => (Value.slice A4 m c4).ownBlock = some q) _).grown hg6 (fun _ hq _ => hq)) (fun q hq _ => (o3.out.lt q hq).1)); replace ho6 := Lib.hid ho6; clear hg6)
                go_roundw
                case rel => exact ⟨k + 1, m + q, c6, A6, by omega, by go_num, by first | rfl | go_num, Lib.hid ⟨hm2.out, hall2.out, ho6.out, b6.out⟩⟩
                case measure => simp [intOf]; omega
          · obtain rfl : n = k := by omega
            have d0 : decide (n < n) = false := by simp
            have d0i : decide ((n : Int) < (n : Int)) = false := by simp
            have htk : fs.take n = fs := List.take_of_length_le (by rw [HN.out]; exact Nat.le_refl _)
            rw [htk] at hm hall ho
            have hp0 : Hid (fput fs = (0 :: 0 :: flines fs, 0)) := Lib.hid (by rw [HP.out, if_pos hall])
            replace hm := Lib.hid hm
            replace hall := Lib.hid hall
            replace ho := Lib.hid ho
            replace hb := Lib.hid hb
            replace htk := Lib.hid htk
            go_wp2_with fail
            go_ret2
            rw [hp0.out]
            have e : (0 :: 0 :: flines fs : List UInt8).length = m := hm.out
            refine ⟨A4, c4, by rw [e]; rfl, ?_, hb.out⟩
            rw [e]; exact ho.out
end Go.Proofs.YtdldipkbknhhoaaDoor

/- fields: Get. -/
namespace Go.Proofs.YtdldipkbknhhoaaDoor
open Go.RowKit

def fgl : Nat → List UInt8 → List Fd → List Fd × Int
  | _, [], acc => (acc, 0)
  | 0, _ :: _, acc => (acc, 0)
  | f + 1, x :: r, acc => if acc.length = 16 then ([], 4) else if (pln (x :: r)).2.1 ≠ 0 then ([], (pln (x :: r)).2.1) else fgl f (pln (x :: r)).1 (acc ++ [(pln (x :: r)).2.2])
def fget (l : List UInt8) : List Fd × Int :=
  if l.length < 2 then ([], 3) else if l.getD 0 0 ≠ 0 ∨ l.getD 1 0 ≠ 0 then ([], 5) else fgl 17 (l.drop 2) []
def RetG (w : World) (x : List Fd × Int) (e : Ending) (w' : World) : Prop :=
  ∃ A c, e = .returned (.tuple #[.slice A x.1.length c, .int .i64 x.2]) ∧ w'.ownsRow w.heap.size 47 2 (.slice A x.1.length c) x.1.length (fdv x.1) ∧ Below w.heap.size w w'
theorem fgl_nil (f : Nat) (acc : List Fd) : fgl f [] acc = (acc, 0) := by cases f <;> rfl
theorem fgl_cons (f : Nat) (x : UInt8) (r : List UInt8) (acc : List Fd) : fgl (f + 1) (x :: r) acc = if acc.length = 16 then ([], 4) else if (pln (x :: r)).2.1 ≠ 0 then ([], (pln (x :: r)).2.1) else fgl f (pln (x :: r)).1 (acc ++ [(pln (x :: r)).2.2]) := rfl
def sliceLen (v : Value) : Nat := match v with | .slice _ m _ => m | _ => 0
theorem bel_fp {B p : Nat} {w0 w w' : World} (hb : Below B w0 w) (hB : B ≤ w.heap.size) (hp : B ≤ p) (F : Fr (fun k => k = p) w w') : Below B w0 w' :=
  Fr.under hb hB F (fun k hk _ => by omega)

set_option maxRecDepth 100000 in
set_option maxHeartbeats 8000000 in
theorem fget_any (l : List UInt8) (A : Option Addr) (c n : Nat) (w : World) (hn : l.length = n) (hr : Rd w A (bv l)) (hc : n ≤ c) (hcc : c ≤ 9223372036854775807) (hl : n ≤ 1000000) :
    Calls Tryd.prog 29 #[.slice A n c] w (RetG w (fget l)) := by
  rcases l with _ | ⟨x, _ | ⟨y, r⟩⟩
  · have hn0 : n = 0 := hn.symm
    subst hn0
    go_enter Tryd.func29, Tryd.ntmps29
    go_wp2_with fail
    go_ret2
    exact ⟨none, 0, rfl, World.ownsRow_nil _ _ _ _, Below.refl _ _⟩
  · have hn0 : n = 1 := hn.symm
    subst hn0
    go_enter Tryd.func29, Tryd.ntmps29
    go_wp2_with fail
    go_ret2
    exact ⟨none, 0, rfl, World.ownsRow_nil _ _ _ _, Below.refl _ _⟩
  · simp only [List.length_cons] at hn
    obtain ⟨b, off, rfl, h0⟩ := hr.at_ (k := 0) (by simp)
    obtain ⟨b', off', e1, h1⟩ := hr.at_ (k := 1) (by simp)
    injection e1 with e1
    injection e1 with e1 e2
    subst e1 e2
    simp only [bv, List.map_cons, List.getElem_cons_zero, List.getElem_cons_succ, Nat.add_zero] at h0 h1
    have hblt := World.block_lt_of_cell? w _ h0
    simp only at hblt
    have hn2 : 2 ≤ n := by omega
    have d0 : decide (n < 2) = false := decide_eq_false (by omega)
    have d0' : decide ((n : Int) < 2) = false := decide_eq_false (by omega)
    have hI0 : (0 : Int) < (n : Int) := by omega
    have hI1 : (1 : Int) < (n : Int) := by omega
    by_cases hz : x = 0 ∧ y = 0
    · obtain ⟨rfl, rfl⟩ := hz
      have hg : Hid (fget (0 :: 0 :: r) = fgl 17 r []) := Lib.hid (by unfold fget; rw [if_neg (by simp), if_neg (by simp)]; rfl)
      obtain ⟨X, hX, hXc⟩ := cut_l (P := Tryd.prog) Tryd.underlying23 infoB (some ⟨b, off, none⟩) n c 2 hn2 hc
      obtain ⟨n2, hn2e⟩ : ∃ n2, n - 2 = n2 := ⟨_, rfl⟩
      obtain ⟨c2, hc2e⟩ : ∃ c2, c - 2 = c2 := ⟨_, rfl⟩
      rw [hn2e, hc2e] at hX
      replace hX : ∀ w : World, (Instr.sliceAt 23 (.slice (some ⟨b, off, none⟩) n c) (some (.int .i64 2)) none none).run Tryd.prog w = .ok (.slice X n2 c2) w := hX
      have hRd : ∀ o, Rdr (w.alloc (.cells #[.slice X n2 c2, .int .i64 0] 73)) w.heap.size X n2 c2 r 0 ∧ o = () := fun o => by
        refine ⟨⟨HasRow.new w _ _, ?_, by omega, by omega, by omega, fun a ha => ?_, fun a ha => ?_, by omega⟩, rfl⟩
        · have := hXc.bytes' hr (by simp; omega) hc
          exact this.alloc _
        · obtain ⟨a0, q1, q2⟩ := hXc.blk a ha
          injection q1 with q1
          subst q1
          simp only at q2
          omega
        · obtain ⟨a0, q1, q2⟩ := hXc.blk a ha
          injection q1 with q1
          subst q1
          simp only at q2
          rw [World.size_alloc]; omega
      have R0 := Lib.hid (hRd ()).1
      have hXlt : Hid (∀ a, X = some a → a.block < w.heap.size) := Lib.hid (fun a ha => by
        obtain ⟨a0, q1, q2⟩ := hXc.blk a ha
        injection q1 with q1
        subst q1
        simp only at q2
        omega)
      have B0 := Lib.hid ((Below.refl _ w).alloc (Nat.le_refl _) (.cells #[.slice X n2 c2, .int .i64 0] 73))
      replace hn2e := Lib.hid hn2e
      replace hc2e := Lib.hid hc2e
      clear hRd hXc hr
      go_enter Tryd.func29, Tryd.ntmps29
      go_wp2_with fail
      obtain ⟨p, hp⟩ : ∃ p, w.heap.size = p := ⟨_, rfl⟩
      rw [hp] at R0 B0 hXlt ⊢
      clear h0 h1 d0 d0' hI0 hI1 hX hblt
      go_loopw [5] (fun v wr => ∃ (acc : List Fd) (k c4 : Nat) (A4 : Option Addr) (l1 : List UInt8), acc.length = k ∧ k ≤ 16 ∧ v = .slice A4 k c4 ∧ Hid (RdrB p wr p l1 0 ∧ fgl (17 - k) l1 acc = fgl 17 r [] ∧ wr.ownsRow p 47 2 (.slice A4 k c4) k (fdv acc) ∧ Below p w wr ∧ p < wr.heap.size)) (fun v _ => 17 - sliceLen v)
      case atStart => exact ⟨[], 0, 0, none, r, rfl, by omega, rfl, Lib.hid ⟨⟨_, _, _, R0.out, hXlt.out⟩, rfl, World.ownsRow_nil _ _ _ _, B0.out, by rw [World.size_alloc]; omega⟩⟩
      case round =>
        clear R0 B0 hXlt
        obtain ⟨acc, k, c4, A4, l1, hk, hk16, rfl, HK⟩ := hrel
        obtain ⟨⟨A1, n1, c1, H1, L1⟩, hfin, ho, hb, hplt⟩ := HK.out
        clear HK
        have x0 := H1.row.cell 0 _ rfl
        have hlen := H1.len
        rcases l1 with _ | ⟨z, r1⟩
        · have hn10 : n1 = 0 := hlen.symm
          subst hn10
          rw [fgl_nil] at hfin
          have hfin2 : Hid (fget (0 :: 0 :: r) = (acc, 0)) := Lib.hid (by rw [hg.out, ← hfin])
          replace ho := Lib.hid ho
          replace hb := Lib.hid hb
          replace hk := Lib.hid hk
          replace hp := Lib.hid hp
          clear H1 L1 hfin hlen
          go_wp2_with fail
          go_ret2
          rw [hfin2.out]
          refine ⟨A4, c4, by rw [show acc.length = k from hk.out]; rfl, ?_, by rw [hp.out]; exact hb.out⟩
          rw [hp.out, show acc.length = k from hk.out]; exact ho.out
        · simp only [List.length_cons] at hlen
          have hn1 : 0 < n1 := by omega
          have hn1I : (0 : Int) < (n1 : Int) := by omega
          obtain ⟨f, hf⟩ : ∃ f, 17 - k = f + 1 := ⟨16 - k, by omega⟩
          rw [hf, fgl_cons, hk] at hfin
          by_cases hk1 : k = 16
          · rw [if_pos hk1] at hfin
            have hfin2 : Hid (fget (0 :: 0 :: r) = ([], 4)) := Lib.hid (by rw [hg.out, ← hfin])
            have d1 : ((k : Int) == 16) = true := by rw [beq_iff_eq]; omega
            replace hb := Lib.hid hb
            replace hp := Lib.hid hp
            replace hk1 := Lib.hid hk1
            clear H1 L1 hfin ho hf
            go_wp2_with fail
            go_ret2
            rw [hfin2.out]
            exact ⟨none, 0, rfl, World.ownsRow_nil _ _ _ _, by rw [hp.out]; exact hb.out⟩
          · rw [if_neg hk1] at hfin
            have d1 : ((k : Int) == 16) = false := by rw [beq_eq_false_iff_ne]; omega
            obtain ⟨⟨l2, e2, fa, fb⟩, hq⟩ : ∃ q, pln (z :: r1) = q := ⟨_, rfl⟩
            rw [hq] at hfin
            simp only at hfin
            have hap : Hid (∀ q, (Value.slice A4 k c4).ownBlock = some q → ¬ q = p) := Lib.hid (fun q hq e => by
              cases A4 with
              | none => cases hq
              | some a4 =>
                injection hq with hq
                rcases ownS_cases ho with ⟨h9, _⟩ | ⟨g9, h9, _⟩
                · cases h9
                · injection h9 with h9
                  subst h9
                  have := own_typed ho H1.row rfl
                  exact this (e.symm.trans hq.symm))
            have LN := Lib.hid (line2_any H1 p L1 l2 e2 fa fb hq)
            replace hq := Lib.hid hq
            replace ho := Lib.hid ho
            replace hb := Lib.hid hb
            replace hp := Lib.hid hp
            clear H1 L1
            by_cases he : e2 = 0
            · subst he
              rw [if_neg (by simp)] at hfin
              replace hfin := Lib.hid hfin
              replace hf := Lib.hid hf
              go_wp2_with fail
              refine LN.out.mono ?_
              rintro en w2 ⟨rfl, ⟨A2, n3, c3, H2, L2⟩, F2⟩
              have o2 := Lib.hid (own_fr ho.out F2 hap.out)
              have B2 := Lib.hid (bel_fp hb.out (Nat.le_of_lt hplt) (Nat.le_refl _) F2)
              have e1 := fun o => Lib.cell?_alloc_some o (H2.row.cell 1 _ rfl)
              have hp2 := H2.row.lt
              have HF : Hid (∀ A6 c6 w6 oa ob, w6.ownsRow p 47 2 (.slice A6 (k + 1) c6) (k + 1) (fdv acc ++ [.string fa, .string fb]) → ((w2.alloc oa).alloc ob).grownBy w6 (Value.slice A4 k c4).ownBlock → RdrB p w6 p l2 0 ∧ w6.ownsRow p 47 2 (.slice A6 (k + 1) c6) (k + 1) (fdv (acc ++ [⟨fa, fb⟩])) ∧ Below p w w6 ∧ p < w6.heap.size) := Lib.hid (fun A6 c6 w6 oa ob h6 g6 => by
                have F6 : Fr (fun q => (Value.slice A4 k c4).ownBlock = some q) w2 w6 := (((Fr.refl _ w2).alloc oa).alloc ob).grown g6 (fun _ hq _ => hq)
                refine ⟨⟨A2, n3, c3, H2.fr F6 (fun e => hap.out p e rfl) (fun a ha e => ?_), L2⟩, by rw [fdv_append]; exact h6, Fr.under B2.out (by omega) F6 (fun q hq _ => (o2.out.lt q hq).1), by have := F6.size; omega⟩
                have q1 := L2 a ha
                have q2 := (o2.out.lt a.block e).1
                omega)
              go_wp2_with (at_builtin; refine wpList_appS rfl _ _ 22 rfl p 47 _ 2 32 infoF Tryd.underlying22 rfl (by decide) (.slice A4 k c4) k (fdv acc) rfl ((o2.out.alloc _).alloc _) ⟨w2.heap.size + 1, 0, none⟩ 1 1 [.string fa, .string fb] rfl rfl (Rd.fresh_to (by rw [World.size_alloc]) [.string fa, .string fb] _ _).cells (by intro u hu; simp at hu; rcases hu with rfl | rfl <;> rfl) (by unfold maxLen; omega) (by omega) (by simp only [World.size_alloc]; omega) ?_; intro A6 c6 w6 ho6 hg6 hat6; have H6 := HF.out A6 c6 w6 _ _ ho6 hg6; clear ho6 hg6 hat6)
              go_roundw
              case rel => exact ⟨acc ++ [⟨fa, fb⟩], k + 1, c6, A6, l2, by rw [List.length_append, hk]; rfl, by omega, rfl, Lib.hid ⟨H6.1, by rw [← hfin.out]; congr 1; have := hf.out; omega, H6.2.1, H6.2.2.1, H6.2.2.2⟩⟩
              case measure => simp only [sliceLen]; omega
            · rw [if_pos he] at hfin
              have d2 : (e2 != 0) = true := by rw [bne_iff_ne]; exact he
              have hfin2 : Hid (fget (0 :: 0 :: r) = ([], e2)) := Lib.hid (by rw [hg.out, ← hfin])
              replace hfin := Lib.hid hfin
              replace hf := Lib.hid hf
              go_wp2_with fail
              refine LN.out.mono ?_
              rintro en w2 ⟨rfl, ⟨A2, n3, c3, H2, L2⟩, F2⟩
              have B2 := bel_fp hb.out (Nat.le_of_lt hplt) (Nat.le_refl _) F2
              have B3 := Lib.hid (B2.alloc (by have := H2.row.lt; omega) (.cells #[.string fa, .string fb] 47))
              have e1 := fun o => Lib.cell?_alloc_some o (H2.row.cell 1 _ rfl)
              clear H2 L2 F2 B2
              go_wp2_with fail
              go_big_quiet (fail)
              go_wp2_with fail
              go_ret2
              rw [hfin2.out]
              exact ⟨none, 0, rfl, World.ownsRow_nil _ _ _ _, by rw [hp.out]; exact B3.out.trans ((Still.drewN _ _).below.mono (by have := B3.out.size; have := hp.out; omega))⟩
    · have hg : Hid (fget (x :: y :: r) = ([], 5)) := Lib.hid (by
        unfold fget
        rw [if_neg (by simp), if_pos]
        rcases Classical.em (x = 0) with h | h
        · exact .inr (fun e => hz ⟨h, e⟩)
        · exact .inl h)
      have hxy : ((x.toNat : Int) != 0) = true ∨ (((x.toNat : Int) != 0) = false ∧ ((y.toNat : Int) != 0) = true) := by
        rcases Classical.em (x = 0) with h | h
        · right
          subst h
          refine ⟨rfl, ?_⟩
          have : y ≠ 0 := fun e => hz ⟨rfl, e⟩
          exact u8_ne' this
        · left
          exact u8_ne' h
      obtain ⟨a, ha⟩ : ∃ a : Int, (x.toNat : Int) = a := ⟨_, rfl⟩
      obtain ⟨b2, hb2⟩ : ∃ b : Int, (y.toNat : Int) = b := ⟨_, rfl⟩
      rw [ha] at h0
      rw [hb2] at h1
      rw [ha, hb2] at hxy
      clear hr hz ha hb2
      rcases hxy with h | ⟨h, h2⟩
      all_goals
        go_enter Tryd.func29, Tryd.ntmps29
        go_wp2_with fail
        go_ret2
        rw [hg.out]
        exact ⟨none, 0, rfl, World.ownsRow_nil _ _ _ _, Below.refl _ _⟩
end Go.Proofs.YtdldipkbknhhoaaDoor

/- Low hands back a number below n, whatever it is handed; n & MaxVar is a number up to MaxVar. -/
namespace Go.Proofs.YtdldipkbknhhoaaDoor
open Go.RowKit

def low (x n : Int) : Int := wrap64 ((IntKind.u64.wrap x).tmod n)
theorem low_bd (x n : Int) (hn : 1 ≤ n) (hm : n ≤ 4611686018427387904) : 0 ≤ low x n ∧ low x n < n := by
  have h0 : 0 ≤ IntKind.u64.wrap x := by rw [IntKind.wrap_u64]; omega
  unfold low
  rw [Int.tmod_eq_emod_of_nonneg h0]
  have h1 := Int.emod_nonneg (IntKind.u64.wrap x) (show n ≠ 0 by omega)
  have h2 := Int.emod_lt_of_pos (IntKind.u64.wrap x) (show 0 < n by omega)
  rw [IntWalk.wrap64_in _ (by omega)]
  exact ⟨h1, h2⟩

set_option maxHeartbeats 400000 in
theorem low_any (x n : Int) (w : World) (hn : 1 ≤ n) (hm : n ≤ 4611686018427387904) :
    Calls Tryd.prog 18 #[.int .i64 x, .int .i64 n] w fun e w' => e = .returned (.int .i64 (low x n)) ∧ w = w' := by
  go_enter Tryd.func18, Tryd.ntmps18
  go_wp2
  go_ret
  exact ⟨rfl, rfl⟩
/-- Low, its result named. -/
theorem low_ex (x : Int) (n : Nat) (hn : 1 ≤ n) (hm : n ≤ 4611686018427387904) : ∃ m : Nat, m < n ∧ ∀ w : World, Calls Tryd.prog 18 #[.int .i64 x, .int .i64 n] w fun e w' => e = .returned (.int .i64 m) ∧ w = w' := by
  have hb := low_bd x n (by omega) (by omega)
  obtain ⟨m, hm2⟩ := Int.eq_ofNat_of_zero_le hb.1
  refine ⟨m, by omega, fun w => ?_⟩
  rw [← hm2]
  exact low_any x n w (by omega) (by omega)
end Go.Proofs.YtdldipkbknhhoaaDoor

/- How many bits a number has, as math/bits tells it; how long a number is laid. Plain arithmetic, and the walks of Low, the reference's Len and math/bits.Len64: each returns what is typed here, at every number of its kind. -/
namespace Go.Proofs.YtdldipkbknhhoaaDoor
open Go.RowKit

def vlen (n : Int) : Int := if n < 64 then 1 else if n < 16384 then 2 else if n < 1073741824 then 4 else if n < 4611686018427387904 then 8 else 0

theorem vlen1 {n : Int} (h : n < 64) : vlen n = 1 := by unfold vlen; rw [if_pos h]
theorem vlen2 {n : Int} (h0 : 64 ≤ n) (h : n < 16384) : vlen n = 2 := by unfold vlen; rw [if_neg (by omega), if_pos h]
theorem vlen4 {n : Int} (h0 : 16384 ≤ n) (h : n < 1073741824) : vlen n = 4 := by unfold vlen; rw [if_neg (by omega), if_neg (by omega), if_pos h]
theorem vlen8 {n : Int} (h0 : 1073741824 ≤ n) (h : n ≤ 4611686018427387903) : vlen n = 8 := by unfold vlen; rw [if_neg (by omega), if_neg (by omega), if_neg (by omega), if_pos (by omega)]
theorem vlen0 {n : Int} (h0 : 4611686018427387904 ≤ n) : vlen n = 0 := by unfold vlen; rw [if_neg (by omega), if_neg (by omega), if_neg (by omega), if_neg (by omega)]

def len8 (x : Int) : Int := if x < 1 then 0 else if x < 2 then 1 else if x < 4 then 2 else if x < 8 then 3 else if x < 16 then 4 else if x < 32 then 5 else if x < 64 then 6 else if x < 128 then 7 else 8
theorem len8_le (x : Int) : 0 ≤ len8 x ∧ len8 x ≤ 8 := by unfold len8; repeat' split <;> omega
def len16 (x : Int) : Int := if 256 ≤ x then 8 + len8 (x / 256) else len8 x
def len32 (x : Int) : Int := if 65536 ≤ x then 16 + len16 (x / 65536) else len16 x
def len64 (x : Int) : Int := if 4294967296 ≤ x then 32 + len32 (x / 4294967296) else len32 x
theorem len16_le (x : Int) : 0 ≤ len16 x ∧ len16 x ≤ 16 := by
  unfold len16; have := len8_le (x / 256); have := len8_le x; split <;> omega
theorem len32_le (x : Int) : 0 ≤ len32 x ∧ len32 x ≤ 32 := by
  unfold len32; have := len16_le (x / 65536); have := len16_le x; split <;> omega
theorem len64_le (x : Int) : 0 ≤ len64 x ∧ len64 x ≤ 64 := by
  unfold len64; have := len32_le (x / 4294967296); have := len32_le x; split <;> omega

theorem len8_6 (x : Int) : len8 x ≤ 6 ↔ x < 64 := by unfold len8; constructor <;> intro h <;> (repeat' split at h) <;> (repeat' split) <;> omega
theorem len8_pos (x : Int) : 1 ≤ len8 x ↔ 1 ≤ x := by unfold len8; constructor <;> intro h <;> (repeat' split at h) <;> (repeat' split) <;> omega
theorem len16_6 (x : Int) : len16 x ≤ 6 ↔ x < 64 := by
  unfold len16; have h1 := len8_pos (x / 256); have := len8_6 x; have := len8_le (x/256); split <;> omega
theorem len16_14 (x : Int) : len16 x ≤ 14 ↔ x < 16384 := by
  unfold len16; have := len8_6 (x / 256); have := len8_le x; split <;> omega
theorem len16_pos (x : Int) : 1 ≤ len16 x ↔ 1 ≤ x := by
  unfold len16; have := len8_pos (x / 256); have := len8_pos x; have := len8_le (x/256); split <;> omega
theorem len64_6 (x : Int) : len64 x ≤ 6 ↔ x < 64 := by
  unfold len64 len32; have := len16_6 x; have := len16_le (x / 65536); have := len16_le (x / 4294967296); have := len16_le (x / 4294967296 / 65536); (repeat' split) <;> omega
theorem len64_14 (x : Int) : len64 x ≤ 14 ↔ x < 16384 := by
  unfold len64 len32; have := len16_14 x; have := len16_le (x / 65536); have := len16_le (x / 4294967296); have := len16_le (x / 4294967296 / 65536); (repeat' split) <;> omega
theorem len64_30 (x : Int) : len64 x ≤ 30 ↔ x < 1073741824 := by
  unfold len64 len32; have := len16_14 (x / 65536); have := len16_le x; have := len16_le (x / 65536); have := len16_le (x / 4294967296); have := len16_le (x / 4294967296 / 65536); (repeat' split) <;> omega
theorem len64_62 (x : Int) : len64 x ≤ 62 ↔ x < 4611686018427387904 := by
  unfold len64 len32; have := len16_14 (x / 4294967296 / 65536); have := len16_le x; have := len16_le (x / 65536); have := len16_le (x / 4294967296); have := len16_le (x / 4294967296 / 65536); (repeat' split) <;> omega

set_option maxHeartbeats 400000 in
theorem reflen_any (n : Int) (w : World) (h0 : 0 ≤ n) (hn : n ≤ 18446744073709551615) :
    Calls Tryd.prog 47 #[.int .u64 n] w fun e w' => e = .returned (.int .i64 (vlen n)) ∧ w = w' := by
  go_enter Tryd.func47, Tryd.ntmps47
  go_wp2
  all_goals go_ret
  · exact ⟨ret_int (vlen1 (by omega)).symm, rfl⟩
  · exact ⟨ret_int (vlen2 (by omega) (by omega)).symm, rfl⟩
  · exact ⟨ret_int (vlen4 (by omega) (by omega)).symm, rfl⟩
  · exact ⟨ret_int (vlen8 (by omega) (by omega)).symm, rfl⟩
  · exact ⟨ret_int (vlen0 (by omega)).symm, rfl⟩

theorem tab_fin {B : ByteArray} (hB : ∀ i : Nat, i < 256 → (B.data.toList.getD i 0).toNat = (len8 i).toNat) (hs : B.size = 256) {x : Int} (h0 : 0 ≤ x) (hx : x < 256) {h : x.toNat < B.size} :
    ((B[x.toNat]'h).toNat : Int) = len8 x := by
  have e : B[x.toNat]'h = B.data.toList.getD x.toNat 0 := by
    have h' : x.toNat < B.data.size := h
    simp [List.getD, ByteArray.getElem_eq_getElem_data]
    rw [Array.getElem?_eq_getElem h']; rfl
  rw [e, hB _ (by omega)]
  have := len8_le x
  have hx' : ((x.toNat : Nat) : Int) = x := by omega
  rw [hx']
  omega

set_option maxRecDepth 100000 in
set_option maxHeartbeats 400000 in
theorem len64_any (n : Int) (w : World) (h0 : 0 ≤ n) (hn : n ≤ 18446744073709551615) :
    Calls Tryd.prog 70 #[.int .u64 n] w fun e w' => e = .returned (.int .i64 (len64 n)) ∧ w = w' := by
  go_enter Tryd.func70, Tryd.ntmps70
  go_wp2
  all_goals go_ret
  all_goals refine ⟨ret_int ?_, rfl⟩
  all_goals rw [tab_fin (by decide) rfl (by omega) (by omega)]
  all_goals (have hb1 := len8_le (n / 4294967296 / 65536 / 256); have hb2 := len8_le (n / 4294967296 / 65536); have hb3 := len8_le (n / 4294967296 / 256); have hb4 := len8_le (n / 4294967296))
  all_goals (have hb5 := len8_le (n / 65536 / 256); have hb6 := len8_le (n / 65536); have hb7 := len8_le (n / 256); have hb8 := len8_le n)
  all_goals (rw [IntWalk.wrap64_in (len8 _) (by omega), IntWalk.wrap64_in _ (by omega)]; unfold len64 len32 len16; (repeat' split) <;> omega)

end Go.Proofs.YtdldipkbknhhoaaDoor

/- varint.Len returns the document's length at every number of 64 bits; it may only draw. -/
namespace Go.Proofs.YtdldipkbknhhoaaDoor
open Go.RowKit

set_option maxHeartbeats 2000000 in
theorem vlen_any (n : Int) (w : World) (h0 : 0 ≤ n) (hn : n ≤ 18446744073709551615) :
    Calls Tryd.prog 54 #[.int .u64 n] w fun e w' => e = .returned (.int .i64 (vlen n)) ∧ ∃ k, w' = w.drewN k := by
  have hle := len64_le n
  have H6 := Lib.hid (len64_6 n)
  have H14 := Lib.hid (len64_14 n)
  have H30 := Lib.hid (len64_30 n)
  have H62 := Lib.hid (len64_62 n)
  by_cases c1 : n < 64
  · have g1 : len64 n ≤ 6 := H6.out.2 c1
    go_enter Tryd.func54, Tryd.ntmps54
    go_wp2_with fail
    refine wp_loop_rounds 5 ?_
    rw [rounds_succ]
    go_wp2_with fail
    go_quiet ((go_at_call 70; exact quiet_left (len64_any _ _ h0 hn)))
    go_wp2_with fail
    go_ret
    exact ⟨ret_int (vlen1 c1).symm, _, rfl⟩
  have g1 : 6 < len64 n := by have := H6.out; omega
  by_cases c2 : n < 16384
  · have g2 : len64 n ≤ 14 := H14.out.2 c2
    go_enter Tryd.func54, Tryd.ntmps54
    go_wp2_with fail
    refine wp_loop_rounds 5 ?_
    rw [rounds_succ]
    go_wp2_with fail
    go_quiet ((go_at_call 70; exact quiet_left (len64_any _ _ h0 hn)))
    go_wp2_with fail
    iterate 1 (rw [rounds_succ]; go_wp2_with fail; go_quiet ((go_at_call 70; exact quiet_add_left (len64_any _ _ h0 hn))); go_wp2_with fail)
    go_ret
    exact ⟨ret_int (vlen2 (by omega) c2).symm, _, rfl⟩
  have g2 : 14 < len64 n := by have := H14.out; omega
  by_cases c3 : n < 1073741824
  · have g3 : len64 n ≤ 30 := H30.out.2 c3
    go_enter Tryd.func54, Tryd.ntmps54
    go_wp2_with fail
    refine wp_loop_rounds 5 ?_
    rw [rounds_succ]
    go_wp2_with fail
    go_quiet ((go_at_call 70; exact quiet_left (len64_any _ _ h0 hn)))
    go_wp2_with fail
    iterate 2 (rw [rounds_succ]; go_wp2_with fail; go_quiet ((go_at_call 70; exact quiet_add_left (len64_any _ _ h0 hn))); go_wp2_with fail)
    go_ret
    exact ⟨ret_int (vlen4 (by omega) c3).symm, _, rfl⟩
  have g3 : 30 < len64 n := by have := H30.out; omega
  by_cases c4 : n < 4611686018427387904
  · have g4 : len64 n ≤ 62 := H62.out.2 c4
    go_enter Tryd.func54, Tryd.ntmps54
    go_wp2_with fail
    refine wp_loop_rounds 5 ?_
    rw [rounds_succ]
    go_wp2_with fail
    go_quiet ((go_at_call 70; exact quiet_left (len64_any _ _ h0 hn)))
    go_wp2_with fail
    iterate 3 (rw [rounds_succ]; go_wp2_with fail; go_quiet ((go_at_call 70; exact quiet_add_left (len64_any _ _ h0 hn))); go_wp2_with fail)
    go_ret
    exact ⟨ret_int (vlen8 (by omega) (by omega)).symm, _, rfl⟩
  have g4 : 62 < len64 n := by have := H62.out; omega
  go_enter Tryd.func54, Tryd.ntmps54
  go_wp2_with fail
  refine wp_loop_rounds 5 ?_
  rw [rounds_succ]
  go_wp2_with fail
  go_quiet ((go_at_call 70; exact quiet_left (len64_any _ _ h0 hn)))
  go_wp2_with fail
  iterate 3 (rw [rounds_succ]; go_wp2_with fail; go_quiet ((go_at_call 70; exact quiet_add_left (len64_any _ _ h0 hn))); go_wp2_with fail)
  rw [rounds_succ]
  go_wp2_with fail
  go_ret
  exact ⟨ret_int (vlen0 (by omega)).symm, _, rfl⟩

end Go.Proofs.YtdldipkbknhhoaaDoor

/- varint.Get and the reference's Get return what vget says, of whatever slice of bytes they are handed (its capacity no less than its length), and turn nothing. -/
namespace Go.Proofs.YtdldipkbknhhoaaDoor
open Go.RowKit

/-- The number that a row of bytes is, the highest first, behind what stands ahead. -/
def beN (n : Int) (l : List UInt8) : Int := l.foldl (fun n c => n * 256 + (c.toNat : Int)) n
theorem beN_nil (n : Int) : beN n [] = n := rfl
theorem beN_snoc (n : Int) (l : List UInt8) (c : UInt8) : beN n (l ++ [c]) = beN n l * 256 + (c.toNat : Int) := by simp [beN]
theorem beN_bd (n : Int) (l : List UInt8) (h0 : 0 ≤ n) (K : Int) (hn : n < K) : 0 ≤ beN n l ∧ beN n l < K * 256 ^ l.length := by
  induction l generalizing n K with
  | nil => simp [beN]; omega
  | cons c l ih =>
    have hc := UInt8.toNat_lt c
    have := ih (n * 256 + (c.toNat : Int)) (by omega) (K * 256) (by omega)
    simp only [beN, List.foldl_cons, List.length_cons] at this ⊢
    rw [Int.pow_succ, Int.mul_comm (256 ^ l.length) 256, ← Int.mul_assoc]
    exact this


theorem get1 {x : UInt8} {r : List UInt8} {k : Nat} (hk : k < r.length) {h : 1 + k < (x :: r).length} : (x :: r)[1 + k] = r[k] := by
  simp [Nat.add_comm 1 k]
theorem beN_take_succ (n : Int) (r : List UInt8) (k : Nat) (hk : k < r.length) : beN n (r.take (k + 1)) = beN n (r.take k) * 256 + (r[k].toNat : Int) := by
  rw [List.take_succ_eq_append_getElem hk, beN_snoc]
theorem pow256 (j : Nat) (h : j < 7) : (64 : Int) * 256 ^ j ≤ 18014398509481984 := by
  match j, h with
  | 0, _ | 1, _ | 2, _ | 3, _ | 4, _ | 5, _ | 6, _ => decide
theorem beN_bd64 (l : List UInt8) (x : Int) (hl : l.length < 7) : 0 ≤ beN (x % 64) l ∧ beN (x % 64) l < 18014398509481984 := by
  have h := beN_bd (x % 64) l (by omega) 64 (by omega)
  have := pow256 l.length hl
  omega

theorem or_join (a b : Int) (h0 : 0 ≤ a) (h1 : a < 18014398509481984) (h2 : 0 ≤ b) (h3 : b < 256) : bits .or .u64 (a * 256) b = a * 256 + b := by
  obtain ⟨A, rfl⟩ := Int.eq_ofNat_of_zero_le h0
  obtain ⟨B, rfl⟩ := Int.eq_ofNat_of_zero_le h2
  have e : ((A : Int) * 256) = ((A * 256 : Nat) : Int) := by omega
  have e2 := Nat.two_pow_add_eq_or_of_lt (i := 8) (b := B) (by omega) A
  rw [e, u64_or_nat _ _ (by omega) (by omega), Nat.mul_comm A 256]
  have e3 : 256 * A ||| B = 256 * A + B := e2.symm
  rw [e3]; omega
/-- How many bytes the number has that begins with c. -/
def vmany (c : UInt8) : Nat := 2 ^ (c.toNat / 64)
def vget (l : List UInt8) : Int × Int × Int :=
  match l with
  | [] => (0, 0, 3)
  | c :: r => if l.length < vmany c then (0, 0, 3) else (beN ((c.toNat : Int) % 64) (r.take (vmany c - 1)), vmany c, 0)

def vtup (x : Int × Int × Int) : Value := .tuple #[.int .u64 x.1, .int .i64 x.2.1, .int .i64 x.2.2]

set_option maxHeartbeats 400000 in
theorem get_any (l : List UInt8) (A : Option Addr) (c : Nat) (w : World) (hr : Rd w A (bv l)) (hc : l.length ≤ c) (hm : l.length ≤ 140737488355328) (hcc : c ≤ 9223372036854775807) :
    Calls Tryd.prog 39 #[.slice A l.length c] w fun e w' => e = .returned (vtup (vget l)) ∧ w = w' := by
  match l, hr, hc, hm with
  | [], hr, hc, hm =>
    go_enter Tryd.func39, Tryd.ntmps39
    go_wp2
    go_ret3
    exact ⟨rfl, rfl⟩
  | x :: r, hr, hc, hm =>
    obtain ⟨b, off, rfl, hcell⟩ := hr (by simp)
    have h0 := hcell 0 _ (bv_get (k := 0) (by simp))
    simp only [List.getElem_cons_zero, Nat.add_zero] at h0
    have hx := UInt8.toNat_lt x
    simp only [List.length_cons] at hc hm
    have hq : x.toNat / 64 = 0 ∨ x.toNat / 64 = 1 ∨ x.toNat / 64 = 2 ∨ x.toNat / 64 = 3 := by omega
    have hz : ((r.length : Int) + 1 == 0) = false := by rw [beq_eq_false_iff_ne]; omega
    have w1 : wrap64 1 = 1 := by unfold wrap64; omega
    have w2 : wrap64 2 = 2 := by unfold wrap64; omega
    have w4 : wrap64 4 = 4 := by unfold wrap64; omega
    have w8 : wrap64 8 = 8 := by unfold wrap64; omega
    rcases hq with hq | hq | hq | hq
    · have hv : vget (x :: r) = if r.length + 1 < 1 then (0, 0, 3) else (beN ((x.toNat : Int) % 64) (r.take 0), 1, 0) := by simp [vget, vmany, hq]
      have HV := Lib.hid hv
      clear hv
      have hge : 0 ≤ r.length := by omega
      go_enter Tryd.func39, Tryd.ntmps39
      go_wp2
      all_goals
        go_loop [6, 36] (fun n i => ∃ k : Nat, k ≤ 0 ∧ n = .int .u64 (beN ((x.toNat : Int) % 64) (r.take k)) ∧ i = .int .i64 k) (fun _ i => 0 - (intOf i).toNat)
        case atStart => exact ⟨0, by omega, rfl, rfl⟩
        case round =>
          obtain ⟨k, hk, rfl, rfl⟩ := hrel
          have hk' : k = 0 := by omega
          subst hk'
          go_wp2
          go_ret3
          exact ⟨by rw [HV.out, if_neg (by omega)]; rfl, rfl⟩
    · have hv : vget (x :: r) = if r.length + 1 < 2 then (0, 0, 3) else (beN ((x.toNat : Int) % 64) (r.take 1), 2, 0) := by simp [vget, vmany, hq]
      have HV := Lib.hid hv
      clear hv
      by_cases hlt : r.length + 1 < 2
      · go_enter Tryd.func39, Tryd.ntmps39
        go_wp2
        go_ret3
        exact ⟨by rw [HV.out, if_pos hlt]; rfl, rfl⟩
      · have hge : 1 ≤ r.length := by omega
        go_enter Tryd.func39, Tryd.ntmps39
        go_wp2
        all_goals
          go_loop [6, 36] (fun n i => ∃ k : Nat, k ≤ 1 ∧ n = .int .u64 (beN ((x.toNat : Int) % 64) (r.take k)) ∧ i = .int .i64 k) (fun _ i => 1 - (intOf i).toNat)
          case atStart => exact ⟨0, by omega, rfl, rfl⟩
          case round =>
            obtain ⟨k, hk, rfl, rfl⟩ := hrel
            by_cases hkl : k < 1
            · have hg := hcell (1 + k) _ (bv_get (l := x :: r) (by simp; omega))
              rw [← Nat.add_assoc, get1 (by omega)] at hg
              have hb := beN_bd64 (r.take k) (x.toNat : Int) (by simp; omega)
              have hs := Lib.hid (beN_take_succ ((x.toNat : Int) % 64) r k (by omega))
              have hcl := UInt8.toNat_lt (r[k]'(by omega))
              go_wp2
              go_round
              case rel => exact ⟨k + 1, by omega, by rw [hs.out, or_join _ _ hb.1 hb.2 (by omega) (by omega)], by go_num⟩
              case measure => simp [intOf]; omega
            · have hk' : k = 1 := by omega
              subst hk'
              go_wp2
              go_ret3
              exact ⟨by rw [HV.out, if_neg (by omega)]; rfl, rfl⟩
    · have hv : vget (x :: r) = if r.length + 1 < 4 then (0, 0, 3) else (beN ((x.toNat : Int) % 64) (r.take 3), 4, 0) := by simp [vget, vmany, hq]
      have HV := Lib.hid hv
      clear hv
      by_cases hlt : r.length + 1 < 4
      · go_enter Tryd.func39, Tryd.ntmps39
        go_wp2
        go_ret3
        exact ⟨by rw [HV.out, if_pos hlt]; rfl, rfl⟩
      · have hge : 3 ≤ r.length := by omega
        go_enter Tryd.func39, Tryd.ntmps39
        go_wp2
        all_goals
          go_loop [6, 36] (fun n i => ∃ k : Nat, k ≤ 3 ∧ n = .int .u64 (beN ((x.toNat : Int) % 64) (r.take k)) ∧ i = .int .i64 k) (fun _ i => 3 - (intOf i).toNat)
          case atStart => exact ⟨0, by omega, rfl, rfl⟩
          case round =>
            obtain ⟨k, hk, rfl, rfl⟩ := hrel
            by_cases hkl : k < 3
            · have hg := hcell (1 + k) _ (bv_get (l := x :: r) (by simp; omega))
              rw [← Nat.add_assoc, get1 (by omega)] at hg
              have hb := beN_bd64 (r.take k) (x.toNat : Int) (by simp; omega)
              have hs := Lib.hid (beN_take_succ ((x.toNat : Int) % 64) r k (by omega))
              have hcl := UInt8.toNat_lt (r[k]'(by omega))
              go_wp2
              go_round
              case rel => exact ⟨k + 1, by omega, by rw [hs.out, or_join _ _ hb.1 hb.2 (by omega) (by omega)], by go_num⟩
              case measure => simp [intOf]; omega
            · have hk' : k = 3 := by omega
              subst hk'
              go_wp2
              go_ret3
              exact ⟨by rw [HV.out, if_neg (by omega)]; rfl, rfl⟩
    · have hv : vget (x :: r) = if r.length + 1 < 8 then (0, 0, 3) else (beN ((x.toNat : Int) % 64) (r.take 7), 8, 0) := by simp [vget, vmany, hq]
      have HV := Lib.hid hv
      clear hv
      by_cases hlt : r.length + 1 < 8
      · go_enter Tryd.func39, Tryd.ntmps39
        go_wp2
        go_ret3
        exact ⟨by rw [HV.out, if_pos hlt]; rfl, rfl⟩
      · have hge : 7 ≤ r.length := by omega
        go_enter Tryd.func39, Tryd.ntmps39
        go_wp2
        all_goals
          go_loop [6, 36] (fun n i => ∃ k : Nat, k ≤ 7 ∧ n = .int .u64 (beN ((x.toNat : Int) % 64) (r.take k)) ∧ i = .int .i64 k) (fun _ i => 7 - (intOf i).toNat)
          case atStart => exact ⟨0, by omega, rfl, rfl⟩
          case round =>
            obtain ⟨k, hk, rfl, rfl⟩ := hrel
            by_cases hkl : k < 7
            · have hg := hcell (1 + k) _ (bv_get (l := x :: r) (by simp; omega))
              rw [← Nat.add_assoc, get1 (by omega)] at hg
              have hb := beN_bd64 (r.take k) (x.toNat : Int) (by simp; omega)
              have hs := Lib.hid (beN_take_succ ((x.toNat : Int) % 64) r k (by omega))
              have hcl := UInt8.toNat_lt (r[k]'(by omega))
              go_wp2
              go_round
              case rel => exact ⟨k + 1, by omega, by rw [hs.out, or_join _ _ hb.1 hb.2 (by omega) (by omega)], by go_num⟩
              case measure => simp [intOf]; omega
            · have hk' : k = 7 := by omega
              subst hk'
              go_wp2
              go_ret3
              exact ⟨by rw [HV.out, if_neg (by omega)]; rfl, rfl⟩
theorem get1' {x : UInt8} {r : List UInt8} {k : Nat} (hk : k < r.length) {h : k + 1 < (x :: r).length} : (x :: r)[k + 1] = r[k] := rfl
set_option maxHeartbeats 400000 in
theorem refget_any (l : List UInt8) (A : Option Addr) (c : Nat) (w : World) (hr : Rd w A (bv l)) (hc : l.length ≤ c) (hm : l.length ≤ 140737488355328) (_hcc : c ≤ 9223372036854775807) :
    Calls Tryd.prog 30 #[.slice A l.length c] w fun e w' => e = .returned (vtup (vget l)) ∧ w = w' := by
  match l, hr, hc, hm with
  | [], hr, hc, hm =>
    go_enter Tryd.func30, Tryd.ntmps30
    go_wp2
    go_ret3
    exact ⟨rfl, rfl⟩
  | x :: r, hr, hc, hm =>
    obtain ⟨b, off, rfl, hcell⟩ := hr (by simp)
    have h0 := hcell 0 _ (bv_get (k := 0) (by simp))
    simp only [List.getElem_cons_zero, Nat.add_zero] at h0
    have hx := UInt8.toNat_lt x
    simp only [List.length_cons] at hc hm
    have hq : x.toNat / 64 = 0 ∨ x.toNat / 64 = 1 ∨ x.toNat / 64 = 2 ∨ x.toNat / 64 = 3 := by omega
    have hz : ((r.length : Int) + 1 == 0) = false := by rw [beq_eq_false_iff_ne]; omega
    have w1 : wrap64 1 = 1 := by unfold wrap64; omega
    have w2 : wrap64 2 = 2 := by unfold wrap64; omega
    have w4 : wrap64 4 = 4 := by unfold wrap64; omega
    have w8 : wrap64 8 = 8 := by unfold wrap64; omega
    rcases hq with hq | hq | hq | hq
    · have hv : vget (x :: r) = if r.length + 1 < 1 then (0, 0, 3) else (beN ((x.toNat : Int) % 64) (r.take 0), 1, 0) := by simp [vget, vmany, hq]
      have HV := Lib.hid hv
      clear hv
      have hge : 0 ≤ r.length := by omega
      go_enter Tryd.func30, Tryd.ntmps30
      go_wp2
      all_goals
        go_loop [6, 7] (fun n i => ∃ k : Nat, k ≤ 0 ∧ n = .int .u64 (beN ((x.toNat : Int) % 64) (r.take k)) ∧ i = .int .i64 ((k : Int) + 1)) (fun _ i => 0 + 1 - (intOf i).toNat)
        case atStart => exact ⟨0, by omega, rfl, rfl⟩
        case round =>
          obtain ⟨k, hk, rfl, rfl⟩ := hrel
          have hk' : k = 0 := by omega
          subst hk'
          go_wp2
          go_ret3
          exact ⟨by rw [HV.out, if_neg (by omega)]; rfl, rfl⟩
    · have hv : vget (x :: r) = if r.length + 1 < 2 then (0, 0, 3) else (beN ((x.toNat : Int) % 64) (r.take 1), 2, 0) := by simp [vget, vmany, hq]
      have HV := Lib.hid hv
      clear hv
      by_cases hlt : r.length + 1 < 2
      · go_enter Tryd.func30, Tryd.ntmps30
        go_wp2
        go_ret3
        exact ⟨by rw [HV.out, if_pos hlt]; rfl, rfl⟩
      · have hge : 1 ≤ r.length := by omega
        go_enter Tryd.func30, Tryd.ntmps30
        go_wp2
        all_goals
          go_loop [6, 7] (fun n i => ∃ k : Nat, k ≤ 1 ∧ n = .int .u64 (beN ((x.toNat : Int) % 64) (r.take k)) ∧ i = .int .i64 ((k : Int) + 1)) (fun _ i => 1 + 1 - (intOf i).toNat)
          case atStart => exact ⟨0, by omega, rfl, rfl⟩
          case round =>
            obtain ⟨k, hk, rfl, rfl⟩ := hrel
            by_cases hkl : k < 1
            · have hg := hcell (k + 1) _ (bv_get (l := x :: r) (by simp; omega))
              rw [get1' (by omega)] at hg
              have hb := beN_bd64 (r.take k) (x.toNat : Int) (by simp; omega)
              have hs := Lib.hid (beN_take_succ ((x.toNat : Int) % 64) r k (by omega))
              have hcl := UInt8.toNat_lt (r[k]'(by omega))
              go_wp2
              go_round
              case rel => exact ⟨k + 1, by omega, by rw [hs.out, or_join _ _ hb.1 hb.2 (by omega) (by omega)], by go_num⟩
              case measure => simp [intOf]; omega
            · have hk' : k = 1 := by omega
              subst hk'
              go_wp2
              go_ret3
              exact ⟨by rw [HV.out, if_neg (by omega)]; rfl, rfl⟩
    · have hv : vget (x :: r) = if r.length + 1 < 4 then (0, 0, 3) else (beN ((x.toNat : Int) % 64) (r.take 3), 4, 0) := by simp [vget, vmany, hq]
      have HV := Lib.hid hv
      clear hv
      by_cases hlt : r.length + 1 < 4
      · go_enter Tryd.func30, Tryd.ntmps30
        go_wp2
        go_ret3
        exact ⟨by rw [HV.out, if_pos hlt]; rfl, rfl⟩
      · have hge : 3 ≤ r.length := by omega
        go_enter Tryd.func30, Tryd.ntmps30
        go_wp2
        all_goals
          go_loop [6, 7] (fun n i => ∃ k : Nat, k ≤ 3 ∧ n = .int .u64 (beN ((x.toNat : Int) % 64) (r.take k)) ∧ i = .int .i64 ((k : Int) + 1)) (fun _ i => 3 + 1 - (intOf i).toNat)
          case atStart => exact ⟨0, by omega, rfl, rfl⟩
          case round =>
            obtain ⟨k, hk, rfl, rfl⟩ := hrel
            by_cases hkl : k < 3
            · have hg := hcell (k + 1) _ (bv_get (l := x :: r) (by simp; omega))
              rw [get1' (by omega)] at hg
              have hb := beN_bd64 (r.take k) (x.toNat : Int) (by simp; omega)
              have hs := Lib.hid (beN_take_succ ((x.toNat : Int) % 64) r k (by omega))
              have hcl := UInt8.toNat_lt (r[k]'(by omega))
              go_wp2
              go_round
              case rel => exact ⟨k + 1, by omega, by rw [hs.out, or_join _ _ hb.1 hb.2 (by omega) (by omega)], by go_num⟩
              case measure => simp [intOf]; omega
            · have hk' : k = 3 := by omega
              subst hk'
              go_wp2
              go_ret3
              exact ⟨by rw [HV.out, if_neg (by omega)]; rfl, rfl⟩
    · have hv : vget (x :: r) = if r.length + 1 < 8 then (0, 0, 3) else (beN ((x.toNat : Int) % 64) (r.take 7), 8, 0) := by simp [vget, vmany, hq]
      have HV := Lib.hid hv
      clear hv
      by_cases hlt : r.length + 1 < 8
      · go_enter Tryd.func30, Tryd.ntmps30
        go_wp2
        go_ret3
        exact ⟨by rw [HV.out, if_pos hlt]; rfl, rfl⟩
      · have hge : 7 ≤ r.length := by omega
        go_enter Tryd.func30, Tryd.ntmps30
        go_wp2
        all_goals
          go_loop [6, 7] (fun n i => ∃ k : Nat, k ≤ 7 ∧ n = .int .u64 (beN ((x.toNat : Int) % 64) (r.take k)) ∧ i = .int .i64 ((k : Int) + 1)) (fun _ i => 7 + 1 - (intOf i).toNat)
          case atStart => exact ⟨0, by omega, rfl, rfl⟩
          case round =>
            obtain ⟨k, hk, rfl, rfl⟩ := hrel
            by_cases hkl : k < 7
            · have hg := hcell (k + 1) _ (bv_get (l := x :: r) (by simp; omega))
              rw [get1' (by omega)] at hg
              have hb := beN_bd64 (r.take k) (x.toNat : Int) (by simp; omega)
              have hs := Lib.hid (beN_take_succ ((x.toNat : Int) % 64) r k (by omega))
              have hcl := UInt8.toNat_lt (r[k]'(by omega))
              go_wp2
              go_round
              case rel => exact ⟨k + 1, by omega, by rw [hs.out, or_join _ _ hb.1 hb.2 (by omega) (by omega)], by go_num⟩
              case measure => simp [intOf]; omega
            · have hk' : k = 7 := by omega
              subst hk'
              go_wp2
              go_ret3
              exact ⟨by rw [HV.out, if_neg (by omega)]; rfl, rfl⟩
end Go.Proofs.YtdldipkbknhhoaaDoor

/- varint.PutLen lays a number that fits in 1, 2, 4 or 8 bytes behind a slice, in new memory. -/
namespace Go.Proofs.YtdldipkbknhhoaaDoor
open Go.RowKit

def vmark (m : Nat) : Nat := if m = 1 then 0 else if m = 2 then 1 else if m = 4 then 2 else 3
def vbyte (n : Int) (m k : Nat) : UInt8 := UInt8.ofNat (n.toNat / 2 ^ (8 * (m - 1 - k)) % 256 + if k = 0 then vmark m * 64 else 0)
def vbytes (n : Int) (m : Nat) : List UInt8 := (List.range m).map (vbyte n m)
theorem vbytes_length (n : Int) (m : Nat) : (vbytes n m).length = m := by simp [vbytes]
theorem vbytes_take_succ (n : Int) (m k : Nat) (hk : k < m) : (vbytes n m).take (k + 1) = (vbytes n m).take k ++ [vbyte n m k] := by
  rw [List.take_succ_eq_append_getElem (by simpa [vbytes] using hk)]
  simp [vbytes]
theorem vbyte_pos (n : Int) (m k : Nat) (h0 : 0 ≤ n) (hk : k ≠ 0) : ((vbyte n m k).toNat : Int) = n / 2 ^ (8 * (m - 1 - k)) % 256 := by
  obtain ⟨N, rfl⟩ := Int.eq_ofNat_of_zero_le h0
  have e : vbyte (N : Int) m k = UInt8.ofNat (N / 2 ^ (8 * (m - 1 - k)) % 256) := by unfold vbyte; rw [if_neg hk]; rfl
  rw [e, UInt8.toNat_ofNat', Nat.mod_eq_of_lt (Nat.mod_lt _ (by decide))]
  rw [Int.natCast_emod, Int.natCast_ediv, Int.natCast_pow]
  rfl
theorem vbyte_zero (n : Int) (m : Nat) (h0 : 0 ≤ n) (hm : m = 1 ∨ m = 2 ∨ m = 4 ∨ m = 8) (hnm : n < 2 ^ (8 * m - 2)) : ((vbyte n m 0).toNat : Int) = n / 2 ^ (8 * (m - 1)) + (vmark m * 64 : Nat) := by
  obtain ⟨N, rfl⟩ := Int.eq_ofNat_of_zero_le h0
  rcases hm with rfl | rfl | rfl | rfl
  all_goals
    simp only [Nat.reduceMul, Nat.reduceSub, Int.reducePow] at hnm
    simp only [vbyte, vmark, Int.toNat_natCast, UInt8.toNat_ofNat', Nat.reduceMul, Nat.reduceSub, Nat.reducePow, Int.reducePow, if_true, reduceIte, Nat.reduceEqDiff]
    omega
theorem u8_join (a b : Int) (h0 : 0 ≤ a) (h1 : a < 64) (h2 : 0 ≤ b) (h3 : b < 4) : bits .or .u8 a (b * 64) = a + b * 64 := by
  obtain ⟨A, rfl⟩ := Int.eq_ofNat_of_zero_le h0
  obtain ⟨B, rfl⟩ := Int.eq_ofNat_of_zero_le h2
  have e : ((B : Int) * 64) = ((B * 64 : Nat) : Int) := by omega
  have e2 := Nat.two_pow_add_eq_or_of_lt (i := 6) (b := A) (by omega) B
  rw [e, u8_or_nat _ _ (by omega) (by omega), Nat.mul_comm B 64, Nat.or_comm]
  have e3 : 64 * B ||| A = 64 * B + A := e2.symm
  rw [e3]; omega

theorem vhead (m a mk : Int) (h0 : 0 ≤ a) (h1 : a < 64) (hmk : len64 m - 1 = mk) (h2 : 0 ≤ mk) (h3 : mk < 4) : bits .or .u8 (a % 256) (wrap64 (len64 m - 1) % 256 * 64 % 256) = a + mk * 64 := by
  rw [hmk, IntWalk.wrap64_in _ (by omega), Int.emod_eq_of_lt (a := a) h0 (by omega), Int.emod_eq_of_lt (a := mk) h2 (by omega), Int.emod_eq_of_lt (a := mk * 64) (by omega) (by omega)]
  exact u8_join a mk h0 h1 h2 h3
theorem head1 (n : Int) (h0 : 0 ≤ n) (h : n < 2 ^ (8 * 1 - 2)) : ((vbyte n 1 0).toNat : Int) = bits .or .u8 (n % 256) (wrap64 (len64 1 - 1) % 256 * 64 % 256) := by
  have e := vbyte_zero n 1 h0 (by omega) h
  simp only [Nat.reduceMul, Nat.reduceSub, Int.reducePow] at h e
  rw [vhead 1 n 0 h0 (by omega) (by decide) (by omega) (by omega), e]; simp [vmark]
theorem head2 (n : Int) (h0 : 0 ≤ n) (h : n < 2 ^ (8 * 2 - 2)) : ((vbyte n 2 0).toNat : Int) = bits .or .u8 (n / 256 % 256) (wrap64 (len64 2 - 1) % 256 * 64 % 256) := by
  have e := vbyte_zero n 2 h0 (by omega) h
  simp only [Nat.reduceMul, Nat.reduceSub, Int.reducePow] at h e
  rw [vhead 2 (n / 256) 1 (by omega) (by omega) (by decide) (by omega) (by omega), e]; simp [vmark]
theorem head4 (n : Int) (h0 : 0 ≤ n) (h : n < 2 ^ (8 * 4 - 2)) : ((vbyte n 4 0).toNat : Int) = bits .or .u8 (n / 16777216 % 256) (wrap64 (len64 4 - 1) % 256 * 64 % 256) := by
  have e := vbyte_zero n 4 h0 (by omega) h
  simp only [Nat.reduceMul, Nat.reduceSub, Int.reducePow] at h e
  rw [vhead 4 (n / 16777216) 2 (by omega) (by omega) (by decide) (by omega) (by omega), e]; simp [vmark]
theorem head8 (n : Int) (h0 : 0 ≤ n) (h : n < 2 ^ (8 * 8 - 2)) : ((vbyte n 8 0).toNat : Int) = bits .or .u8 (n / 72057594037927936 % 256) (wrap64 (len64 8 - 1) % 256 * 64 % 256) := by
  have e := vbyte_zero n 8 h0 (by omega) h
  simp only [Nat.reduceMul, Nat.reduceSub, Int.reducePow] at h e
  rw [vhead 8 (n / 72057594037927936) 3 (by omega) (by omega) (by decide) (by omega) (by omega), e]; simp [vmark]

theorem headm (n : Int) (m : Nat) (h0 : 0 ≤ n) (hm : m = 1 ∨ m = 2 ∨ m = 4 ∨ m = 8) (h : n < 2 ^ (8 * m - 2)) : ((vbyte n m 0).toNat : Int) = bits .or .u8 (n / 2 ^ (8 * (m - 1)) % 256) (wrap64 (len64 (m : Int) - 1) % 256 * 64 % 256) := by
  rcases hm with rfl | rfl | rfl | rfl
  · have := head1 n h0 h; simpa using this
  · exact head2 n h0 h
  · exact head4 n h0 h
  · exact head8 n h0 h

set_option maxHeartbeats 400000 in
theorem bitslen_any (n : Int) (w : World) (h0 : 0 ≤ n) (hn : n ≤ 18446744073709551615) :
    Calls Tryd.prog 69 #[.int .u64 n] w fun e w' => e = .returned (.int .i64 (len64 n)) ∧ w = w' := by
  go_enter Tryd.func69, Tryd.ntmps69
  go_wp2_with (go_at_call 70; refine (len64_any _ _ (by omega) (by omega)).mono ?_; rintro e w' ⟨rfl, rfl⟩)
  go_ret
  exact ⟨rfl, rfl⟩

/-- A round's end: one byte more. -/
theorem put_step {E B : Nat} {w0 wr w' : World} {l : List UInt8} {n : Int} {m k : Nat} {v : Value} {A' : Option Addr} {c' : Nat} {x : Int} {o : Obj} (hk : k < m) (hx : ((vbyte n m k).toNat : Int) = x) (hbel : Below B w0 wr) (hB : B ≤ wr.heap.size)
    (hown : wr.ownsRow B E 1 v (l.length + k) (bv (l ++ (vbytes n m).take k)))
    (hown' : w'.ownsRow B E 1 (.slice A' (l.length + k + 1) c') (l.length + k + 1) (bv (l ++ (vbytes n m).take k) ++ [.int .u8 x])) (hg : (wr.alloc o).grownBy w' v.ownBlock) :
    w'.ownsRow B E 1 (.slice A' (l.length + k + 1) c') (l.length + k + 1) (bv (l ++ (vbytes n m).take (k + 1))) ∧ Below B w0 w' := by
  refine ⟨?_, (hbel.alloc hB _).grown hg (by simp; omega) fun j hj => (hown.lt j hj).1⟩
  rw [vbytes_take_succ _ _ _ hk, ← List.append_assoc, bv_append]
  have : bv [vbyte n m k] = [.int .u8 x] := by simp [bv, hx]
  rw [this]; exact hown'

set_option maxHeartbeats 1000000 in
theorem putlen_any (n : Int) (m : Nat) (l : List UInt8) (A : Option Addr) (c : Nat) (w : World) (hr : Rd w A (bv l)) (hl : l.length ≤ 70368744177664) (h0 : 0 ≤ n) (hn : n ≤ 4611686018427387903)
    (hm : m = 1 ∨ m = 2 ∨ m = 4 ∨ m = 8) (hnm : n < 2 ^ (8 * m - 2)) :
    Calls Tryd.prog 53 #[.slice A l.length c, .int .u64 n, .int .i64 m] w (RetS 5 w (l.length + m) (bv (l ++ vbytes n m))) := by
  have HM := Lib.hid hm
  have HN := Lib.hid hnm
  have hm1 : 1 ≤ m := by omega
  have hm8 : m ≤ 8 := by omega
  clear hm hnm
  go_enter Tryd.func53, Tryd.ntmps53
  go_wp2_with (at_builtin; refine wpList_app _ rfl _ _ 23 rfl w.heap.size 5 (.int .u8 0) 1 infoB Tryd.underlying23 rfl (.slice none 0 0) 0 [] rfl (World.ownsRow_nil _ _ _ _) A l.length c (bv l) rfl (by simp) hr (bv_one l) (by unfold maxLen; omega) (by omega) (Nat.le_refl _) ?_; intro A' c' w1 hown hgrow hat)
  have hbel := (Below.refl w.heap.size w).grown hgrow (Nat.le_refl _) (fun k hk => by simp [Value.ownBlock] at hk)
  simp only [Nat.zero_add, List.nil_append] at hown
  clear hgrow hat
  go_loopw [7, 13] (fun v i wr => ∃ (k : Nat) (A' : Option Addr) (c' : Nat), k ≤ m ∧ i = .int .i64 k ∧ v = .slice A' (l.length + k) c' ∧ wr.ownsRow w.heap.size 5 1 (.slice A' (l.length + k) c') (l.length + k) (bv (l ++ (vbytes n m).take k)) ∧ Below w.heap.size w wr) (fun _ i _ => m - (intOf i).toNat)
  case atStart => exact ⟨0, A', c', by omega, rfl, rfl, by simpa using hown, hbel⟩
  case round =>
    clear hown hbel
    obtain ⟨k, A2, c2, hk, rfl, rfl, hown, hbel⟩ := hrel
    have hsz := hbel.size
    by_cases hkm : k < m
    · by_cases hk0 : k = 0
      · subst hk0
        have hz : ((0 : Int) == 0) = true := rfl
        simp only [Nat.add_zero] at hown
        go_wp2_with (first | (go_at_call 69; refine (bitslen_any _ _ (by omega) (by omega)).mono ?_; rintro e w' ⟨rfl, rfl⟩) | (at_builtin; refine wpList_app _ rfl _ _ 23 rfl w.heap.size 5 (.int .u8 0) 1 infoB Tryd.underlying23 rfl (.slice A2 l.length c2) l.length _ rfl (hown.alloc _) (some ⟨wr.heap.size, 0, none⟩) 1 1 [.int .u8 _] rfl rfl (Rd.fresh _ _ _) (one_int _ _) (by unfold maxLen; omega) (by omega) (by simp; omega) ?_; intro A3 c3 w3 hown3 hgrow3 _))
        have R := put_step (m := m) (k := 0) (by omega) (headm n m h0 HM.out HN.out) hbel hsz hown hown3 hgrow3
        clear hown3 hgrow3 hown hbel
        go_wp2
        go_roundw
        case rel => exact ⟨1, A3, c3, by omega, rfl, rfl, R.1, R.2⟩
        case measure => simp [intOf]; omega
      · have hz : ((k : Int) == 0) = false := by rw [beq_eq_false_iff_ne]; omega
        go_wp2_with (at_builtin; refine wpList_app _ rfl _ _ 23 rfl w.heap.size 5 (.int .u8 0) 1 infoB Tryd.underlying23 rfl (.slice A2 (l.length + k) c2) (l.length + k) _ rfl (hown.alloc _) (some ⟨wr.heap.size, 0, none⟩) 1 1 [.int .u8 (n / 2 ^ (8 * (m - 1 - k)) % 256)] rfl rfl (Rd.fresh _ _ _) (one_int _ _) (by unfold maxLen; omega) (by omega) (by simp; omega) ?_; intro A3 c3 w3 hown3 hgrow3 _)
        have R := put_step hkm (vbyte_pos n m k h0 hk0) hbel hsz hown hown3 hgrow3
        clear hown3 hgrow3 hown hbel
        go_wp2
        go_roundw
        case rel => exact ⟨k + 1, A3, c3, by omega, by go_num, rfl, R.1, R.2⟩
        case measure => simp [intOf]; omega
    · have : k = m := by omega
      subst this
      go_wp2
      go_ret
      exact ⟨A2, c2, rfl, by simpa [vbytes_length, List.take_of_length_le] using hown, hbel⟩
end Go.Proofs.YtdldipkbknhhoaaDoor

/- varint.Put lays each number of 64 bits behind a slice, in new memory, in as many bytes as it must have (none above MaxVar). -/
namespace Go.Proofs.YtdldipkbknhhoaaDoor
open Go.RowKit

def vl (n : Int) : Nat := (vlen n).toNat
theorem vlen_nn (n : Int) : 0 ≤ vlen n := by unfold vlen; (repeat' split) <;> omega
theorem vl_cast (n : Int) : ((vl n : Nat) : Int) = vlen n := Int.toNat_of_nonneg (vlen_nn n)
theorem vl_zero {n : Int} (h : 4611686018427387903 < n) : vl n = 0 := by unfold vl; rw [vlen0 (by omega)]; rfl
theorem vl_fit {n : Int} (h : n ≤ 4611686018427387903) : (vl n = 1 ∨ vl n = 2 ∨ vl n = 4 ∨ vl n = 8) ∧ n < 2 ^ (8 * vl n - 2) := by
  by_cases c1 : n < 64
  · have : vl n = 1 := by unfold vl; rw [vlen1 c1]; rfl
    rw [this]; exact ⟨by omega, by simp only [Nat.reduceMul, Nat.reduceSub, Int.reducePow]; omega⟩
  by_cases c2 : n < 16384
  · have : vl n = 2 := by unfold vl; rw [vlen2 (by omega) c2]; rfl
    rw [this]; exact ⟨by omega, by simp only [Nat.reduceMul, Nat.reduceSub, Int.reducePow]; omega⟩
  by_cases c3 : n < 1073741824
  · have : vl n = 4 := by unfold vl; rw [vlen4 (by omega) c3]; rfl
    rw [this]; exact ⟨by omega, by simp only [Nat.reduceMul, Nat.reduceSub, Int.reducePow]; omega⟩
  · have : vl n = 8 := by unfold vl; rw [vlen8 (by omega) h]; rfl
    rw [this]; exact ⟨by omega, by simp only [Nat.reduceMul, Nat.reduceSub, Int.reducePow]; omega⟩

theorem vl_bd (n : Int) : vl n ≤ 8 := by
  by_cases h : n ≤ 4611686018427387903
  · have := (vl_fit h).1; omega
  · rw [vl_zero (by omega)]; omega

theorem RetS.of_drewN {E : TypeId} {w : World} {k n : Nat} {xs : List Value} {e : Ending} {w' : World} (h : RetS E (w.drewN k) n xs e w') : RetS E w n xs e w' := by
  obtain ⟨A, c, he, ho, hb⟩ := h
  exact ⟨A, c, he, ho, ⟨hb.os, hb.tape, hb.output, hb.size, hb.block⟩⟩

set_option maxHeartbeats 400000 in
theorem putlen0_any (n : Int) (l : List UInt8) (A : Option Addr) (c : Nat) (w : World) (hr : Rd w A (bv l)) (hl : l.length ≤ 70368744177664) :
    Calls Tryd.prog 53 #[.slice A l.length c, .int .u64 n, .int .i64 0] w (RetS 5 w l.length (bv l)) := by
  go_enter Tryd.func53, Tryd.ntmps53
  go_wp2_with (at_builtin; refine wpList_app _ rfl _ _ 23 rfl w.heap.size 5 (.int .u8 0) 1 infoB Tryd.underlying23 rfl (.slice none 0 0) 0 [] rfl (World.ownsRow_nil _ _ _ _) A l.length c (bv l) rfl (by simp) hr (bv_one l) (by unfold maxLen; omega) (by omega) (Nat.le_refl _) ?_; intro A' c' w1 hown hgrow hat)
  have hbel := (Below.refl w.heap.size w).grown hgrow (Nat.le_refl _) (fun k hk => by simp [Value.ownBlock] at hk)
  simp only [Nat.zero_add, List.nil_append] at hown
  clear hgrow hat
  refine wp_loop_rounds 1 ?_
  rw [rounds_succ]
  go_wp2
  go_ret
  exact ⟨A', c', rfl, hown, hbel⟩

set_option maxHeartbeats 400000 in
theorem put_any (n : Int) (l : List UInt8) (A : Option Addr) (c : Nat) (w : World) (hr : Rd w A (bv l)) (hl : l.length ≤ 70368744177664) (h0 : 0 ≤ n) (hn : n ≤ 18446744073709551615) :
    Calls Tryd.prog 37 #[.slice A l.length c, .int .u64 n] w (RetS 5 w (l.length + vl n) (bv (l ++ vbytes n (vl n)))) := by
  have HV := Lib.hid (vl_cast n)
  by_cases hm : n ≤ 4611686018427387903
  · have HF := Lib.hid (vl_fit hm)
    go_enter Tryd.func37, Tryd.ntmps37
    go_wp2_with fail
    refine (vlen_any n _ h0 hn).mono ?_
    rintro e w' ⟨rfl, k, rfl⟩
    rw [← HV.out]
    go_wp2_with fail
    refine (putlen_any n (vl n) l A c _ (hr.drewN k) hl h0 hm HF.out.1 HF.out.2).mono ?_
    rintro e w' ⟨A', c', rfl, hown, hbel⟩
    go_wp2
    go_ret
    exact RetS.of_drewN ⟨A', c', rfl, hown, hbel⟩
  · have h0' := Lib.hid (vl_zero (n := n) (by omega))
    have HZ := Lib.hid (vlen0 (n := n) (by omega))
    go_enter Tryd.func37, Tryd.ntmps37
    go_wp2_with fail
    refine (vlen_any n _ h0 hn).mono ?_
    rintro e w' ⟨rfl, k, rfl⟩
    rw [HZ.out]
    go_wp2_with fail
    refine (putlen0_any n l A c _ (hr.drewN k) hl).mono ?_
    rintro e w' ⟨A', c', rfl, hown, hbel⟩
    go_wp2
    go_ret
    rw [h0'.out]
    exact RetS.of_drewN ⟨A', c', rfl, by simpa [vbytes] using hown, hbel⟩
end Go.Proofs.YtdldipkbknhhoaaDoor

/- The reference's In lays a number that fits in 1, 2, 4 or 8 bytes behind a slice, in new memory. -/
namespace Go.Proofs.YtdldipkbknhhoaaDoor
open Go.RowKit

theorem or0 (a : Int) (h0 : 0 ≤ a) (h1 : a < 64) : bits .or .u8 (a % 64) 0 = a := by
  rw [Int.emod_eq_of_lt h0 h1]; have := u8_join a 0 h0 h1 (by omega) (by omega); simpa using this
theorem or64 (a : Int) (h0 : 0 ≤ a) (h1 : a < 64) : bits .or .u8 (a % 64) 64 = a + 64 := by
  rw [Int.emod_eq_of_lt h0 h1]; exact u8_join a 1 h0 h1 (by omega) (by omega)
theorem or128 (a : Int) (h0 : 0 ≤ a) (h1 : a < 64) : bits .or .u8 (a % 64) 128 = a + 128 := by
  rw [Int.emod_eq_of_lt h0 h1]; exact u8_join a 2 h0 h1 (by omega) (by omega)
theorem or192 (a : Int) (h0 : 0 ≤ a) (h1 : a < 64) : bits .or .u8 (a % 64) 192 = a + 192 := by
  rw [Int.emod_eq_of_lt h0 h1]; exact u8_join a 3 h0 h1 (by omega) (by omega)
theorem inhd1 (n : Int) (h0 : 0 ≤ n) (h : n < 64) : ((vbyte n 1 0).toNat : Int) = bits .or .u8 (n % 64) 0 := by
  have e := vbyte_zero n 1 h0 (by omega) (by simp only [Nat.reduceMul, Nat.reduceSub, Int.reducePow]; omega)
  simp only [Nat.reduceMul, Nat.reduceSub, Int.reducePow] at e
  rw [or0 (n) (by omega) (by omega), e]; simp [vmark]
theorem inhd2 (n : Int) (h0 : 0 ≤ n) (h : n < 16384) : ((vbyte n 2 0).toNat : Int) = bits .or .u8 (n / 256 % 64) 64 := by
  have e := vbyte_zero n 2 h0 (by omega) (by simp only [Nat.reduceMul, Nat.reduceSub, Int.reducePow]; omega)
  simp only [Nat.reduceMul, Nat.reduceSub, Int.reducePow] at e
  rw [or64 (n / 256) (by omega) (by omega), e]; simp [vmark]
theorem inhd4 (n : Int) (h0 : 0 ≤ n) (h : n < 1073741824) : ((vbyte n 4 0).toNat : Int) = bits .or .u8 (n / 16777216 % 64) 128 := by
  have e := vbyte_zero n 4 h0 (by omega) (by simp only [Nat.reduceMul, Nat.reduceSub, Int.reducePow]; omega)
  simp only [Nat.reduceMul, Nat.reduceSub, Int.reducePow] at e
  rw [or128 (n / 16777216) (by omega) (by omega), e]; simp [vmark]
theorem inhd8 (n : Int) (h0 : 0 ≤ n) (h : n ≤ 4611686018427387903) : ((vbyte n 8 0).toNat : Int) = bits .or .u8 (n / 72057594037927936 % 64) 192 := by
  have e := vbyte_zero n 8 h0 (by omega) (by simp only [Nat.reduceMul, Nat.reduceSub, Int.reducePow]; omega)
  simp only [Nat.reduceMul, Nat.reduceSub, Int.reducePow] at e
  rw [or192 (n / 72057594037927936) (by omega) (by omega), e]; simp [vmark]

set_option maxHeartbeats 1000000 in
theorem in1_any (n : Int) (l : List UInt8) (A : Option Addr) (c : Nat) (w : World) (hr : Rd w A (bv l)) (hl : l.length ≤ 70368744177664) (h0 : 0 ≤ n) (hn : n < 64) :
    Calls Tryd.prog 46 #[.slice A l.length c, .int .u64 n, .int .i64 1] w (RetS 5 w (l.length + 1) (bv (l ++ vbytes n 1))) := by
  go_enter Tryd.func46, Tryd.ntmps46
  go_wp2_with (at_builtin; refine wpList_app _ rfl _ _ 23 rfl w.heap.size 5 (.int .u8 0) 1 infoB Tryd.underlying23 rfl (.slice none 0 0) 0 [] rfl (World.ownsRow_nil _ _ _ _) A l.length c (bv l) rfl (by simp) hr (bv_one l) (by unfold maxLen; omega) (by omega) (Nat.le_refl _) ?_; intro A' c' w1 hown hgrow hat)
  have hbel := (Below.refl w.heap.size w).grown hgrow (Nat.le_refl _) (fun k hk => by simp [Value.ownBlock] at hk)
  simp only [Nat.zero_add, List.nil_append] at hown
  clear hgrow hat
  go_loopw [7, 8] (fun v i wr => ∃ (k : Nat) (A' : Option Addr) (c' : Nat), k ≤ 1 ∧ i = .int .i64 (0 - (k : Int)) ∧ v = .slice A' (l.length + k) c' ∧ wr.ownsRow w.heap.size 5 1 (.slice A' (l.length + k) c') (l.length + k) (bv (l ++ (vbytes n 1).take k)) ∧ Below w.heap.size w wr) (fun _ i _ => ((intOf i) + 1).toNat)
  case atStart => exact ⟨0, A', c', by omega, rfl, rfl, by simpa using hown, hbel⟩
  case round =>
    clear hown hbel
    obtain ⟨k, A2, c2, hk, rfl, rfl, hown, hbel⟩ := hrel
    have hsz := hbel.size
    by_cases hkm : k < 1
    · by_cases hk0 : k = 0
      · subst hk0
        simp only [Nat.add_zero] at hown
        simp only [Nat.add_zero, Int.natCast_zero, Int.sub_zero]
        go_wp2_with fail
        refine wp_loop_rounds 1 ?_
        iterate 0 (rw [rounds_succ]; go_wp2_with fail)
        rw [rounds_succ]
        go_wp2_with (at_builtin; refine wpList_app _ rfl _ _ 23 rfl w.heap.size 5 (.int .u8 0) 1 infoB Tryd.underlying23 rfl (.slice A2 l.length c2) l.length _ rfl (hown.alloc _) (some ⟨wr.heap.size, 0, none⟩) 1 1 [.int .u8 _] rfl rfl (Rd.fresh _ _ _) (one_int _ _) (by unfold maxLen; omega) (by omega) (by simp; omega) ?_; intro A3 c3 w3 hown3 hgrow3 _)
        have R := put_step (m := 1) (k := 0) (by omega) (inhd1 n h0 hn) hbel hsz hown hown3 hgrow3
        clear hown3 hgrow3 hown hbel
        go_wp2
        go_roundw
        case rel => exact ⟨1, A3, c3, by omega, by go_num, rfl, R.1, R.2⟩
        case measure => simp [intOf]
      · omega
    · have : k = 1 := by omega
      subst this
      go_wp2
      go_ret
      exact ⟨A2, c2, rfl, by simpa [vbytes_length, List.take_of_length_le] using hown, hbel⟩

set_option maxHeartbeats 1000000 in
theorem in2_any (n : Int) (l : List UInt8) (A : Option Addr) (c : Nat) (w : World) (hr : Rd w A (bv l)) (hl : l.length ≤ 70368744177664) (h0 : 0 ≤ n) (hn : n < 16384) :
    Calls Tryd.prog 46 #[.slice A l.length c, .int .u64 n, .int .i64 2] w (RetS 5 w (l.length + 2) (bv (l ++ vbytes n 2))) := by
  go_enter Tryd.func46, Tryd.ntmps46
  go_wp2_with (at_builtin; refine wpList_app _ rfl _ _ 23 rfl w.heap.size 5 (.int .u8 0) 1 infoB Tryd.underlying23 rfl (.slice none 0 0) 0 [] rfl (World.ownsRow_nil _ _ _ _) A l.length c (bv l) rfl (by simp) hr (bv_one l) (by unfold maxLen; omega) (by omega) (Nat.le_refl _) ?_; intro A' c' w1 hown hgrow hat)
  have hbel := (Below.refl w.heap.size w).grown hgrow (Nat.le_refl _) (fun k hk => by simp [Value.ownBlock] at hk)
  simp only [Nat.zero_add, List.nil_append] at hown
  clear hgrow hat
  go_loopw [7, 8] (fun v i wr => ∃ (k : Nat) (A' : Option Addr) (c' : Nat), k ≤ 2 ∧ i = .int .i64 (1 - (k : Int)) ∧ v = .slice A' (l.length + k) c' ∧ wr.ownsRow w.heap.size 5 1 (.slice A' (l.length + k) c') (l.length + k) (bv (l ++ (vbytes n 2).take k)) ∧ Below w.heap.size w wr) (fun _ i _ => ((intOf i) + 1).toNat)
  case atStart => exact ⟨0, A', c', by omega, rfl, rfl, by simpa using hown, hbel⟩
  case round =>
    clear hown hbel
    obtain ⟨k, A2, c2, hk, rfl, rfl, hown, hbel⟩ := hrel
    have hsz := hbel.size
    by_cases hkm : k < 2
    · by_cases hk0 : k = 0
      · subst hk0
        simp only [Nat.add_zero] at hown
        simp only [Nat.add_zero, Int.natCast_zero, Int.sub_zero]
        go_wp2_with fail
        refine wp_loop_rounds 2 ?_
        iterate 1 (rw [rounds_succ]; go_wp2_with fail)
        rw [rounds_succ]
        go_wp2_with (at_builtin; refine wpList_app _ rfl _ _ 23 rfl w.heap.size 5 (.int .u8 0) 1 infoB Tryd.underlying23 rfl (.slice A2 l.length c2) l.length _ rfl (hown.alloc _) (some ⟨wr.heap.size, 0, none⟩) 1 1 [.int .u8 _] rfl rfl (Rd.fresh _ _ _) (one_int _ _) (by unfold maxLen; omega) (by omega) (by simp; omega) ?_; intro A3 c3 w3 hown3 hgrow3 _)
        have R := put_step (m := 2) (k := 0) (by omega) (inhd2 n h0 hn) hbel hsz hown hown3 hgrow3
        clear hown3 hgrow3 hown hbel
        go_wp2
        go_roundw
        case rel => exact ⟨1, A3, c3, by omega, by go_num, rfl, R.1, R.2⟩
        case measure => simp [intOf]
      · have hz : ((1 - (k : Int)) == 1) = false := by rw [beq_eq_false_iff_ne]; omega
        go_wp2_with (at_builtin; refine wpList_app _ rfl _ _ 23 rfl w.heap.size 5 (.int .u8 0) 1 infoB Tryd.underlying23 rfl (.slice A2 (l.length + k) c2) (l.length + k) _ rfl (hown.alloc _) (some ⟨wr.heap.size, 0, none⟩) 1 1 [.int .u8 _] rfl rfl (Rd.fresh _ _ _) (one_int _ _) (by unfold maxLen; omega) (by omega) (by simp; omega) ?_; intro A3 c3 w3 hown3 hgrow3 _)
        have R := put_step hkm (vbyte_pos n 2 k h0 hk0) hbel hsz hown hown3 hgrow3
        clear hown3 hgrow3 hown hbel
        go_wp2
        go_roundw
        case rel => exact ⟨k + 1, A3, c3, by omega, by go_num, rfl, R.1, R.2⟩
        case measure => simp [intOf]; omega
    · have : k = 2 := by omega
      subst this
      go_wp2
      go_ret
      exact ⟨A2, c2, rfl, by simpa [vbytes_length, List.take_of_length_le] using hown, hbel⟩

set_option maxHeartbeats 1000000 in
theorem in4_any (n : Int) (l : List UInt8) (A : Option Addr) (c : Nat) (w : World) (hr : Rd w A (bv l)) (hl : l.length ≤ 70368744177664) (h0 : 0 ≤ n) (hn : n < 1073741824) :
    Calls Tryd.prog 46 #[.slice A l.length c, .int .u64 n, .int .i64 4] w (RetS 5 w (l.length + 4) (bv (l ++ vbytes n 4))) := by
  go_enter Tryd.func46, Tryd.ntmps46
  go_wp2_with (at_builtin; refine wpList_app _ rfl _ _ 23 rfl w.heap.size 5 (.int .u8 0) 1 infoB Tryd.underlying23 rfl (.slice none 0 0) 0 [] rfl (World.ownsRow_nil _ _ _ _) A l.length c (bv l) rfl (by simp) hr (bv_one l) (by unfold maxLen; omega) (by omega) (Nat.le_refl _) ?_; intro A' c' w1 hown hgrow hat)
  have hbel := (Below.refl w.heap.size w).grown hgrow (Nat.le_refl _) (fun k hk => by simp [Value.ownBlock] at hk)
  simp only [Nat.zero_add, List.nil_append] at hown
  clear hgrow hat
  go_loopw [7, 8] (fun v i wr => ∃ (k : Nat) (A' : Option Addr) (c' : Nat), k ≤ 4 ∧ i = .int .i64 (3 - (k : Int)) ∧ v = .slice A' (l.length + k) c' ∧ wr.ownsRow w.heap.size 5 1 (.slice A' (l.length + k) c') (l.length + k) (bv (l ++ (vbytes n 4).take k)) ∧ Below w.heap.size w wr) (fun _ i _ => ((intOf i) + 1).toNat)
  case atStart => exact ⟨0, A', c', by omega, rfl, rfl, by simpa using hown, hbel⟩
  case round =>
    clear hown hbel
    obtain ⟨k, A2, c2, hk, rfl, rfl, hown, hbel⟩ := hrel
    have hsz := hbel.size
    by_cases hkm : k < 4
    · by_cases hk0 : k = 0
      · subst hk0
        simp only [Nat.add_zero] at hown
        simp only [Nat.add_zero, Int.natCast_zero, Int.sub_zero]
        go_wp2_with fail
        refine wp_loop_rounds 3 ?_
        iterate 2 (rw [rounds_succ]; go_wp2_with fail)
        rw [rounds_succ]
        go_wp2_with (at_builtin; refine wpList_app _ rfl _ _ 23 rfl w.heap.size 5 (.int .u8 0) 1 infoB Tryd.underlying23 rfl (.slice A2 l.length c2) l.length _ rfl (hown.alloc _) (some ⟨wr.heap.size, 0, none⟩) 1 1 [.int .u8 _] rfl rfl (Rd.fresh _ _ _) (one_int _ _) (by unfold maxLen; omega) (by omega) (by simp; omega) ?_; intro A3 c3 w3 hown3 hgrow3 _)
        have R := put_step (m := 4) (k := 0) (by omega) (inhd4 n h0 hn) hbel hsz hown hown3 hgrow3
        clear hown3 hgrow3 hown hbel
        go_wp2
        go_roundw
        case rel => exact ⟨1, A3, c3, by omega, by go_num, rfl, R.1, R.2⟩
        case measure => simp [intOf]
      · have hz : ((3 - (k : Int)) == 3) = false := by rw [beq_eq_false_iff_ne]; omega
        go_wp2_with (at_builtin; refine wpList_app _ rfl _ _ 23 rfl w.heap.size 5 (.int .u8 0) 1 infoB Tryd.underlying23 rfl (.slice A2 (l.length + k) c2) (l.length + k) _ rfl (hown.alloc _) (some ⟨wr.heap.size, 0, none⟩) 1 1 [.int .u8 _] rfl rfl (Rd.fresh _ _ _) (one_int _ _) (by unfold maxLen; omega) (by omega) (by simp; omega) ?_; intro A3 c3 w3 hown3 hgrow3 _)
        have R := put_step hkm (vbyte_pos n 4 k h0 hk0) hbel hsz hown hown3 hgrow3
        clear hown3 hgrow3 hown hbel
        go_wp2
        go_roundw
        case rel => exact ⟨k + 1, A3, c3, by omega, by go_num, rfl, R.1, R.2⟩
        case measure => simp [intOf]; omega
    · have : k = 4 := by omega
      subst this
      go_wp2
      go_ret
      exact ⟨A2, c2, rfl, by simpa [vbytes_length, List.take_of_length_le] using hown, hbel⟩

set_option maxHeartbeats 1000000 in
theorem in8_any (n : Int) (l : List UInt8) (A : Option Addr) (c : Nat) (w : World) (hr : Rd w A (bv l)) (hl : l.length ≤ 70368744177664) (h0 : 0 ≤ n) (hn : n ≤ 4611686018427387903) :
    Calls Tryd.prog 46 #[.slice A l.length c, .int .u64 n, .int .i64 8] w (RetS 5 w (l.length + 8) (bv (l ++ vbytes n 8))) := by
  go_enter Tryd.func46, Tryd.ntmps46
  go_wp2_with (at_builtin; refine wpList_app _ rfl _ _ 23 rfl w.heap.size 5 (.int .u8 0) 1 infoB Tryd.underlying23 rfl (.slice none 0 0) 0 [] rfl (World.ownsRow_nil _ _ _ _) A l.length c (bv l) rfl (by simp) hr (bv_one l) (by unfold maxLen; omega) (by omega) (Nat.le_refl _) ?_; intro A' c' w1 hown hgrow hat)
  have hbel := (Below.refl w.heap.size w).grown hgrow (Nat.le_refl _) (fun k hk => by simp [Value.ownBlock] at hk)
  simp only [Nat.zero_add, List.nil_append] at hown
  clear hgrow hat
  go_loopw [7, 8] (fun v i wr => ∃ (k : Nat) (A' : Option Addr) (c' : Nat), k ≤ 8 ∧ i = .int .i64 (7 - (k : Int)) ∧ v = .slice A' (l.length + k) c' ∧ wr.ownsRow w.heap.size 5 1 (.slice A' (l.length + k) c') (l.length + k) (bv (l ++ (vbytes n 8).take k)) ∧ Below w.heap.size w wr) (fun _ i _ => ((intOf i) + 1).toNat)
  case atStart => exact ⟨0, A', c', by omega, rfl, rfl, by simpa using hown, hbel⟩
  case round =>
    clear hown hbel
    obtain ⟨k, A2, c2, hk, rfl, rfl, hown, hbel⟩ := hrel
    have hsz := hbel.size
    by_cases hkm : k < 8
    · by_cases hk0 : k = 0
      · subst hk0
        simp only [Nat.add_zero] at hown
        simp only [Nat.add_zero, Int.natCast_zero, Int.sub_zero]
        go_wp2_with fail
        refine wp_loop_rounds 4 ?_
        iterate 3 (rw [rounds_succ]; go_wp2_with fail)
        rw [rounds_succ]
        go_wp2_with (at_builtin; refine wpList_app _ rfl _ _ 23 rfl w.heap.size 5 (.int .u8 0) 1 infoB Tryd.underlying23 rfl (.slice A2 l.length c2) l.length _ rfl (hown.alloc _) (some ⟨wr.heap.size, 0, none⟩) 1 1 [.int .u8 _] rfl rfl (Rd.fresh _ _ _) (one_int _ _) (by unfold maxLen; omega) (by omega) (by simp; omega) ?_; intro A3 c3 w3 hown3 hgrow3 _)
        have R := put_step (m := 8) (k := 0) (by omega) (inhd8 n h0 hn) hbel hsz hown hown3 hgrow3
        clear hown3 hgrow3 hown hbel
        go_wp2
        go_roundw
        case rel => exact ⟨1, A3, c3, by omega, by go_num, rfl, R.1, R.2⟩
        case measure => simp [intOf]
      · have hz : ((7 - (k : Int)) == 7) = false := by rw [beq_eq_false_iff_ne]; omega
        go_wp2_with (at_builtin; refine wpList_app _ rfl _ _ 23 rfl w.heap.size 5 (.int .u8 0) 1 infoB Tryd.underlying23 rfl (.slice A2 (l.length + k) c2) (l.length + k) _ rfl (hown.alloc _) (some ⟨wr.heap.size, 0, none⟩) 1 1 [.int .u8 _] rfl rfl (Rd.fresh _ _ _) (one_int _ _) (by unfold maxLen; omega) (by omega) (by simp; omega) ?_; intro A3 c3 w3 hown3 hgrow3 _)
        have R := put_step hkm (vbyte_pos n 8 k h0 hk0) hbel hsz hown hown3 hgrow3
        clear hown3 hgrow3 hown hbel
        go_wp2
        go_roundw
        case rel => exact ⟨k + 1, A3, c3, by omega, by go_num, rfl, R.1, R.2⟩
        case measure => simp [intOf]; omega
    · have : k = 8 := by omega
      subst this
      go_wp2
      go_ret
      exact ⟨A2, c2, rfl, by simpa [vbytes_length, List.take_of_length_le] using hown, hbel⟩
end Go.Proofs.YtdldipkbknhhoaaDoor

/- The reference's In and Put: contracts at every length and every number of 64 bits. -/
namespace Go.Proofs.YtdldipkbknhhoaaDoor
open Go.RowKit

theorem in_any (n : Int) (m : Nat) (l : List UInt8) (A : Option Addr) (c : Nat) (w : World) (hr : Rd w A (bv l)) (hl : l.length ≤ 70368744177664) (h0 : 0 ≤ n)
    (hm : m = 1 ∨ m = 2 ∨ m = 4 ∨ m = 8) (hnm : n < 2 ^ (8 * m - 2)) :
    Calls Tryd.prog 46 #[.slice A l.length c, .int .u64 n, .int .i64 m] w (RetS 5 w (l.length + m) (bv (l ++ vbytes n m))) := by
  rcases hm with rfl | rfl | rfl | rfl <;> simp only [Nat.reduceMul, Nat.reduceSub, Int.reducePow] at hnm
  · exact in1_any n l A c w hr hl h0 (by omega)
  · exact in2_any n l A c w hr hl h0 (by omega)
  · exact in4_any n l A c w hr hl h0 (by omega)
  · exact in8_any n l A c w hr hl h0 (by omega)

set_option maxHeartbeats 400000 in
theorem in0_any (n : Int) (l : List UInt8) (A : Option Addr) (c : Nat) (w : World) (hr : Rd w A (bv l)) (hl : l.length ≤ 70368744177664) :
    Calls Tryd.prog 46 #[.slice A l.length c, .int .u64 n, .int .i64 0] w (RetS 5 w l.length (bv l)) := by
  go_enter Tryd.func46, Tryd.ntmps46
  go_wp2_with (at_builtin; refine wpList_app _ rfl _ _ 23 rfl w.heap.size 5 (.int .u8 0) 1 infoB Tryd.underlying23 rfl (.slice none 0 0) 0 [] rfl (World.ownsRow_nil _ _ _ _) A l.length c (bv l) rfl (by simp) hr (bv_one l) (by unfold maxLen; omega) (by omega) (Nat.le_refl _) ?_; intro A' c' w1 hown hgrow hat)
  have hbel := (Below.refl w.heap.size w).grown hgrow (Nat.le_refl _) (fun k hk => by simp [Value.ownBlock] at hk)
  simp only [Nat.zero_add, List.nil_append] at hown
  clear hgrow hat
  refine wp_loop_rounds 1 ?_
  rw [rounds_succ]
  go_wp2
  go_ret
  exact ⟨A', c', rfl, hown, hbel⟩

set_option maxHeartbeats 400000 in
theorem refput_any (n : Int) (l : List UInt8) (A : Option Addr) (c : Nat) (w : World) (hr : Rd w A (bv l)) (hl : l.length ≤ 70368744177664) (h0 : 0 ≤ n) (hn : n ≤ 18446744073709551615) :
    Calls Tryd.prog 35 #[.slice A l.length c, .int .u64 n] w (RetS 5 w (l.length + vl n) (bv (l ++ vbytes n (vl n)))) := by
  have HV := Lib.hid (vl_cast n)
  by_cases hm : n ≤ 4611686018427387903
  · have HF := Lib.hid (vl_fit hm)
    go_enter Tryd.func35, Tryd.ntmps35
    go_wp2_with fail
    refine (reflen_any n _ h0 hn).mono ?_
    rintro e w' ⟨rfl, rfl⟩
    rw [← HV.out]
    go_wp2_with fail
    refine (in_any n (vl n) l A c _ hr hl h0 HF.out.1 HF.out.2).mono ?_
    rintro e w' ⟨A', c', rfl, hown, hbel⟩
    go_wp2
    go_ret
    exact ⟨A', c', rfl, hown, hbel⟩
  · have h0' := Lib.hid (vl_zero (n := n) (by omega))
    have HZ := Lib.hid (vlen0 (n := n) (by omega))
    go_enter Tryd.func35, Tryd.ntmps35
    go_wp2_with fail
    refine (reflen_any n _ h0 hn).mono ?_
    rintro e w' ⟨rfl, rfl⟩
    rw [HZ.out]
    go_wp2_with fail
    refine (in0_any n l A c _ hr hl).mono ?_
    rintro e w' ⟨A', c', rfl, hown, hbel⟩
    go_wp2
    go_ret
    rw [h0'.out]
    exact ⟨A', c', rfl, by simpa [vbytes] using hown, hbel⟩
end Go.Proofs.YtdldipkbknhhoaaDoor

/- Plain laws of the numbers' bytes: what is laid is read as it was; cut, it is too short. -/
namespace Go.Proofs.YtdldipkbknhhoaaDoor
open Go.RowKit

theorem vbytes_cons (n : Int) (m : Nat) (hm : 1 ≤ m) : vbytes n m = vbyte n m 0 :: (vbytes n m).drop 1 := by
  obtain ⟨j, rfl⟩ : ∃ j, m = j + 1 := ⟨m - 1, by omega⟩
  simp [vbytes, List.range_succ_eq_map]
theorem vb_first (n : Int) (m : Nat) (h0 : 0 ≤ n) (hm : m = 1 ∨ m = 2 ∨ m = 4 ∨ m = 8) (hnm : n < 2 ^ (8 * m - 2)) :
    vmany (vbyte n m 0) = m ∧ ((vbyte n m 0).toNat : Int) % 64 = n / 2 ^ (8 * (m - 1)) := by
  have e := vbyte_zero n m h0 hm hnm
  have hb : 0 ≤ n / 2 ^ (8 * (m - 1)) ∧ n / 2 ^ (8 * (m - 1)) < 64 := by
    rcases hm with rfl | rfl | rfl | rfl <;> simp only [Nat.reduceMul, Nat.reduceSub, Int.reducePow] at hnm ⊢ <;> omega
  refine ⟨?_, by omega⟩
  unfold vmany
  have : (vbyte n m 0).toNat / 64 = vmark m := by omega
  rw [this]
  rcases hm with rfl | rfl | rfl | rfl <;> rfl
theorem ediv_step (n : Int) (j : Nat) : n / 2 ^ (8 * (j + 1)) * 256 + n / 2 ^ (8 * j) % 256 = n / 2 ^ (8 * j) := by
  have h1 : (2 : Int) ^ (8 * (j + 1)) = 2 ^ (8 * j) * 256 := by
    rw [show 8 * (j + 1) = 8 * j + 8 from by omega, Int.pow_add]; rfl
  have hp : (0 : Int) ≤ 2 ^ (8 * j) := Int.pow_nonneg (by omega)
  rw [h1, ← Int.ediv_ediv_of_nonneg hp]
  omega
theorem beN_vb (n : Int) (m k : Nat) (h0 : 0 ≤ n) (hk : k < m) : beN (n / 2 ^ (8 * (m - 1))) (((vbytes n m).drop 1).take k) = n / 2 ^ (8 * (m - 1 - k)) := by
  induction k with
  | zero => rfl
  | succ k ih =>
    have hlen : k < ((vbytes n m).drop 1).length := by simp [vbytes_length]; omega
    have hg : ((vbytes n m).drop 1)[k] = vbyte n m (k + 1) := by simp [vbytes, Nat.add_comm]
    rw [beN_take_succ _ _ _ hlen, ih (by omega), hg, vbyte_pos n m (k + 1) h0 (by omega)]
    have := ediv_step n (m - 1 - (k + 1))
    rw [show m - 1 - (k + 1) + 1 = m - 1 - k from by omega] at this
    exact this
theorem vget_vbytes (n : Int) (m : Nat) (t : List UInt8) (h0 : 0 ≤ n) (hm : m = 1 ∨ m = 2 ∨ m = 4 ∨ m = 8) (hnm : n < 2 ^ (8 * m - 2)) : vget (vbytes n m ++ t) = (n, (m : Int), 0) := by
  obtain ⟨h1, h2⟩ := vb_first n m h0 hm hnm
  have hlen := vbytes_length n m
  have e := vbytes_cons n m (by omega)
  generalize hr : (vbytes n m).drop 1 = r at e
  have hrl : r.length = m - 1 := by rw [← hr]; simp [hlen]
  rw [e, List.cons_append]
  simp only [vget, h1]
  rw [if_neg (by simp; omega), h2]
  have ht : (r ++ t).take (m - 1) = r.take (m - 1) := by rw [List.take_append_of_le_length (by omega)]
  rw [ht, ← hr, beN_vb n m (m - 1) h0 (by omega)]
  simp
theorem vget_short (n : Int) (m : Nat) (h0 : 0 ≤ n) (hm : m = 1 ∨ m = 2 ∨ m = 4 ∨ m = 8) (hnm : n < 2 ^ (8 * m - 2)) (k : Nat) (hk : k < m) : vget ((vbytes n m).take k) = (0, 0, 3) := by
  obtain ⟨h1, h2⟩ := vb_first n m h0 hm hnm
  have hlen := vbytes_length n m
  rw [vbytes_cons n m (by omega)]
  match k, hk with
  | 0, _ => rfl
  | j + 1, hk =>
    simp only [List.take_succ_cons, vget, h1]
    rw [if_pos (by simp [vbytes_length]; omega)]
/-- How a number is laid. -/
def vput (n : Int) : List UInt8 := vbytes n (vl n)
theorem vput_length (n : Int) : (vput n).length = vl n := vbytes_length _ _
theorem vput_many (n : Int) (h : n ≤ 4611686018427387903) : (vput n).length = 1 ∨ (vput n).length = 2 ∨ (vput n).length = 4 ∨ (vput n).length = 8 := by rw [vput_length]; exact (vl_fit h).1
theorem vget_vput (n : Int) (t : List UInt8) (h0 : 0 ≤ n) (h : n ≤ 4611686018427387903) : vget (vput n ++ t) = (n, ((vput n).length : Int), 0) := by
  rw [vput_length]; exact vget_vbytes n (vl n) t h0 (vl_fit h).1 (vl_fit h).2
theorem vget_vput_short (n : Int) (h0 : 0 ≤ n) (h : n ≤ 4611686018427387903) (k : Nat) (hk : k < (vput n).length) : vget ((vput n).take k) = (0, 0, 3) :=
  vget_short n (vl n) h0 (vl_fit h).1 (vl_fit h).2 k (by rwa [vput_length] at hk)
theorem vput_zero {n : Int} (h : 4611686018427387903 < n) : vput n = [] := by unfold vput; rw [vl_zero h]; rfl
theorem vput_any (n : Int) (l : List UInt8) (A : Option Addr) (c : Nat) (w : World) (hr : Rd w A (bv l)) (hl : l.length ≤ 70368744177664) (h0 : 0 ≤ n) (hn : n ≤ 18446744073709551615) :
    Calls Tryd.prog 37 #[.slice A l.length c, .int .u64 n] w (RetS 5 w (l ++ vput n).length (bv (l ++ vput n))) := by
  rw [List.length_append, vput_length]; exact put_any n l A c w hr hl h0 hn
theorem vlenp_any (n : Int) (w : World) (h0 : 0 ≤ n) (hn : n ≤ 18446744073709551615) :
    Calls Tryd.prog 54 #[.int .u64 n] w fun e w' => e = .returned (.int .i64 (vput n).length) ∧ ∃ k, w' = w.drewN k := by
  rw [vput_length, vl_cast]; exact vlen_any n w h0 hn
theorem vput_fits (n : Int) (h : n ≤ 4611686018427387903) (m : Nat) (hm : (vput n).length ≤ m) : n < 2 ^ (8 * m - 2) := by
  have := (vl_fit h).2
  rw [vput_length] at hm
  have h2 : (2 : Int) ^ (8 * vl n - 2) ≤ 2 ^ (8 * m - 2) := by exact_mod_cast Nat.pow_le_pow_right (n := 2) (by omega) (by omega)
  omega
theorem getv_any (n : Int) (m : Nat) (A : Option Addr) (c : Nat) (w : World) (h0 : 0 ≤ n) (hm : m = 1 ∨ m = 2 ∨ m = 4 ∨ m = 8) (hnm : n < 2 ^ (8 * m - 2)) (hr : Rd w A (bv (vbytes n m))) (hc : m ≤ c) (hcc : c ≤ 9223372036854775807) :
    Calls Tryd.prog 39 #[.slice A m c] w fun e w' => e = .returned (vtup (n, (m : Int), 0)) ∧ w = w' := by
  have e1 := vget_vbytes n m [] h0 hm hnm
  rw [List.append_nil] at e1
  have e2 := vbytes_length n m
  have := get_any (vbytes n m) A c w hr (by omega) (by omega) hcc
  rw [e1, e2] at this
  exact this
end Go.Proofs.YtdldipkbknhhoaaDoor

/- letter: the buckets, a part, what fits. -/
namespace Go.Proofs.YtdldipkbknhhoaaDoor
open Go.RowKit

/-- The variable letter.buckets holds what its initialiser lays. -/
structure BK (w : World) : Prop where
  b0 : w.cell? ⟨0, 0, none⟩ = some (.int .i64 256)
  b1 : w.cell? ⟨0, 1, none⟩ = some (.int .i64 512)
  b2 : w.cell? ⟨0, 2, none⟩ = some (.int .i64 1024)
theorem BK.lt {w : World} (h : BK w) : 0 < w.heap.size := World.block_lt_of_cell? w _ h.b0
theorem BK.fr {w w' : World} {S : Nat → Prop} (h : BK w) (F : Fr S w w') (hS : ¬ S 0) : BK w' :=
  ⟨by rw [F.cell (p := ⟨0, 0, none⟩) h.lt hS]; exact h.b0, by rw [F.cell (p := ⟨0, 1, none⟩) h.lt hS]; exact h.b1, by rw [F.cell (p := ⟨0, 2, none⟩) h.lt hS]; exact h.b2⟩
theorem BK.below {w w' : World} (h : BK w) (b : Below w.heap.size w w') : BK w' := h.fr (Fr.of_below b NoS) (fun x => x)
theorem BK.rd {w : World} (h : BK w) : Rd w (some ⟨0, 0, none⟩) [.int .i64 256, .int .i64 512, .int .i64 1024] := fun _ => ⟨0, 0, rfl, fun k u hu => by
  rcases k with _ | _ | _ | k
  · simp at hu; subst hu; exact h.b0
  · simp at hu; subst hu; exact h.b1
  · simp at hu; subst hu; exact h.b2
  · simp at hu⟩
def bok (n : Int) : Bool := decide (n = 256 ∨ n = 512 ∨ n = 1024)

def bidx (n : Int) : Int := if n = 256 then 0 else if n = 512 then 1 else if n = 1024 then 2 else -1
theorem bok_bidx (n : Int) : decide (0 ≤ bidx n) = bok n := by
  unfold bidx bok
  by_cases h0 : n = 256
  · subst h0; decide
  · by_cases h1 : n = 512
    · subst h1; decide
    · by_cases h2 : n = 1024
      · subst h2; decide
      · simp [h0, h1, h2]
set_option maxRecDepth 100000 in
set_option maxHeartbeats 4000000 in
theorem bindex_any (n : Int) (w : World) (h : BK w) :
    Calls Tryd.prog 38 #[.slice (some ⟨0, 0, none⟩) 3 3, .int .i64 n] w fun e w' => e = .returned (.int .i64 (bidx n)) ∧ w = w' := by
  obtain ⟨b0, b1, b2⟩ := h
  obtain ⟨R, hR⟩ : ∃ R, bidx n = R := ⟨_, rfl⟩
  rw [hR]
  have H0 : Hid (n = 256 → R = 0) := Lib.hid (fun h => by rw [← hR, h]; rfl)
  have H1 : Hid (n = 512 → R = 1) := Lib.hid (fun h => by rw [← hR, h]; rfl)
  have H2 : Hid (n = 1024 → R = 2) := Lib.hid (fun h => by rw [← hR, h]; rfl)
  have H3 : Hid (n ≠ 256 → n ≠ 512 → n ≠ 1024 → R = -1) := Lib.hid (fun h0 h1 h2 => by rw [← hR]; unfold bidx; rw [if_neg h0, if_neg h1, if_neg h2])
  clear hR
  go_enter Tryd.func38, Tryd.ntmps38
  go_wp2_with fail
  go_loop [8, 5] (fun j _ => ∃ k : Nat, k ≤ 3 ∧ j = .int .i64 k ∧ Hid ((0 < k → n ≠ 256) ∧ (1 < k → n ≠ 512) ∧ (2 < k → n ≠ 1024))) (fun j _ => 3 - (intOf j).toNat)
  case atStart => exact ⟨0, by omega, rfl, Lib.hid ⟨fun h => absurd h (by omega), fun h => absurd h (by omega), fun h => absurd h (by omega)⟩⟩
  case round =>
    obtain ⟨k, hk, rfl, HK⟩ := hrel
    rcases k with _ | _ | _ | _ | k
    · by_cases h : n = 256
      · have e0 : (n == 256) = true := beq_iff_eq.2 h
        have hh := H0.out h
        replace h := Lib.hid h
        go_wp2_with fail
        go_ret
        exact ⟨by first | rfl | (rw [hh]; rfl), rfl⟩
      · have e0 : (n == 256) = false := beq_eq_false_iff_ne.2 h
        replace h := Lib.hid h
        go_wp2_with fail
        go_round
        case rel => exact ⟨1, by omega, by go_num, Lib.hid ⟨fun _ => h.out, fun h => absurd h (by omega), fun h => absurd h (by omega)⟩⟩
        case measure => simp [intOf]
    · by_cases h : n = 512
      · have e0 : (n == 512) = true := beq_iff_eq.2 h
        have hh := H1.out h
        replace h := Lib.hid h
        go_wp2_with fail
        go_ret
        exact ⟨by first | rfl | (rw [hh]; rfl), rfl⟩
      · have e0 : (n == 512) = false := beq_eq_false_iff_ne.2 h
        replace h := Lib.hid h
        go_wp2_with fail
        go_round
        case rel => exact ⟨2, by omega, by go_num, Lib.hid ⟨fun _ => HK.out.1 (by omega), fun _ => h.out, fun h => absurd h (by omega)⟩⟩
        case measure => simp [intOf]
    · by_cases h : n = 1024
      · have e0 : (n == 1024) = true := beq_iff_eq.2 h
        have hh := H2.out h
        replace h := Lib.hid h
        go_wp2_with fail
        go_ret
        exact ⟨by first | rfl | (rw [hh]; rfl), rfl⟩
      · have e0 : (n == 1024) = false := beq_eq_false_iff_ne.2 h
        replace h := Lib.hid h
        go_wp2_with fail
        go_round
        case rel => exact ⟨3, by omega, by go_num, Lib.hid ⟨fun _ => HK.out.1 (by omega), fun _ => HK.out.2.1 (by omega), fun _ => h.out⟩⟩
        case measure => simp [intOf]
    · have hh := H3.out (HK.out.1 (by omega)) (HK.out.2.1 (by omega)) (HK.out.2.2 (by omega))
      go_wp2_with fail
      go_ret
      exact ⟨by first | rfl | (rw [hh]; rfl), rfl⟩
    · exact absurd hk (by omega)
theorem bcontains_any (n : Int) (w : World) (h : BK w) :
    Calls Tryd.prog 24 #[.slice (some ⟨0, 0, none⟩) 3 3, .int .i64 n] w fun e w' => e = .returned (.bool (bok n)) ∧ w = w' := by
  have CI := Lib.hid (bindex_any n w h)
  have hb := Lib.hid (bok_bidx n)
  clear h
  go_enter Tryd.func24, Tryd.ntmps24
  go_wp2_with fail
  refine CI.out.mono ?_
  rintro e w' ⟨rfl, rfl⟩
  go_wp2_with fail
  go_ret
  exact ⟨by rw [← hb.out]; rfl, rfl⟩
theorem bucket_any (n : Int) (w : World) (h : BK w) :
    Calls Tryd.prog 12 #[.int .i64 n] w fun e w' => e = .returned (.bool (bok n)) ∧ w = w' := by
  have CI := Lib.hid (bcontains_any n w h)
  have b0 := h.b0
  clear h
  go_enter Tryd.func12, Tryd.ntmps12
  go_wp2_with fail
  refine CI.out.mono ?_
  rintro e w' ⟨rfl, rfl⟩
  go_wp2_with fail
  go_ret
  exact ⟨rfl, rfl⟩

def ltfits (n b : Int) : Bool := decide (n = b ∨ n ≤ b - 2)
theorem ltfits_any (n b : Int) (w : World) (hb : 0 ≤ b) (hb2 : b ≤ 100000) :
    Calls Tryd.prog 22 #[.int .i64 n, .int .i64 b] w fun e w' => e = .returned (.bool (ltfits n b)) ∧ w = w' := by
  have hw : IntKind.i64.wrap (b - 2) = b - 2 := by rw [IntKind.wrap_i64]; omega
  by_cases h : n = b
  · have e0 : (n == b) = true := beq_iff_eq.2 h
    have hV : Hid (ltfits n b = true) := Lib.hid (decide_eq_true (.inl h))
    replace h := Lib.hid h
    go_enter Tryd.func22, Tryd.ntmps22
    go_wp2_with fail
    go_ret
    exact ⟨by rw [hV.out]; rfl, rfl⟩
  · have e0 : (n == b) = false := beq_eq_false_iff_ne.2 h
    obtain ⟨v, hv⟩ : ∃ v, decide (n ≤ b - 2) = v := ⟨_, rfl⟩
    have hV : Hid (ltfits n b = v) := Lib.hid (by rw [← hv]; unfold ltfits; simp [h])
    replace h := Lib.hid h
    go_enter Tryd.func22, Tryd.ntmps22
    go_wp2_with fail
    go_ret
    exact ⟨by rw [hV.out]; rfl, rfl⟩

def ltpart (kind : Int) (d : List UInt8) : List UInt8 := vput kind ++ (vput d.length ++ d)
set_option maxRecDepth 100000 in
set_option maxHeartbeats 4000000 in
theorem ltpart_any (kind : Int) (l d : List UInt8) (A B : Option Addr) (n cn m cm : Nat) (w : World) (hn : l.length = n) (hm : d.length = m) (hr : Rd w A (bv l)) (hd : Rd w B (bv d)) (hl : n ≤ 1000000) (hm1 : m ≤ 1000000) (h0 : 0 ≤ kind) (hk : kind ≤ 63) :
    Calls Tryd.prog 23 #[.slice A n cn, .int .u64 kind, .slice B m cm] w (RetS 5 w (l ++ ltpart kind d).length (bv (l ++ ltpart kind d))) := by
  have C1 := Lib.hid (vput_any kind l A cn w hr (by omega) h0 (by omega))
  rw [hn] at C1
  obtain ⟨n1, hn1⟩ : ∃ x, (l ++ vput kind).length = x := ⟨_, rfl⟩
  rw [hn1] at C1
  have hv1 : (vput kind).length ≤ 8 := by rw [vput_length]; exact vl_bd kind
  have hn1b : n1 ≤ 1000008 := by rw [← hn1, List.length_append]; omega
  have C2 : Hid (∀ (A1 : Option Addr) (c1 : Nat) (w1 : World), Rd w1 A1 (bv (l ++ vput kind)) → Calls Tryd.prog 37 #[.slice A1 n1 c1, .int .u64 (m : Int)] w1 (RetS 5 w1 ((l ++ vput kind) ++ vput (m : Int)).length (bv ((l ++ vput kind) ++ vput (m : Int))))) := Lib.hid (fun A1 c1 w1 h1 => by
    have := vput_any (m : Int) (l ++ vput kind) A1 c1 w1 h1 (by omega) (by omega) (by omega)
    rw [hn1] at this
    exact this)
  have hv2 : (vput (m : Int)).length ≤ 8 := by rw [vput_length]; exact vl_bd _
  obtain ⟨L2, hL2⟩ : ∃ x, (l ++ vput kind) ++ vput (m : Int) = x := ⟨_, rfl⟩
  obtain ⟨n2, hn2⟩ : ∃ x, L2.length = x := ⟨_, rfl⟩
  have hn2b : n2 ≤ 1000016 := by rw [← hn2, ← hL2, List.length_append, hn1]; omega
  rw [hL2] at C2
  rw [hn2] at C2
  have hfin : Hid (l ++ ltpart kind d = L2 ++ d) := Lib.hid (by rw [← hL2]; unfold ltpart; rw [hm]; simp only [List.append_assoc])
  have hlen : Hid ((l ++ ltpart kind d).length = n2 + m) := Lib.hid (by rw [hfin.out, List.length_append, hn2, hm])
  have hw : IntKind.u64.wrap (m : Int) = (m : Int) := by rw [IntKind.wrap_u64]; omega
  have hbm : (bv d).length = m := by rw [bv_length, hm]
  rw [hlen.out, hfin.out]
  replace hd := Lib.hid hd
  replace hbm := Lib.hid hbm
  clear hr hn hm hn1 hL2 hn2 hlen hfin hv1 hv2
  go_enter Tryd.func23, Tryd.ntmps23
  go_wp2_with fail
  refine C1.out.mono ?_
  rintro e w1 ⟨A1, c1, rfl, o1, b1⟩
  replace C2 := Lib.hid (C2.out A1 c1 w1 (Rd.of_own o1))
  replace b1 := Lib.hid b1
  clear C1 o1
  go_wp2_with fail
  refine C2.out.mono ?_
  rintro e w2 ⟨A2, c2, rfl, o2, b2⟩
  have O2 := Lib.hid (own_base (base2 := w.heap.size) o2 (fun k hk => by have := (o2.lt k hk).1; have := b1.out.size; omega))
  have B2 : Hid (Below w.heap.size w w2) := Lib.hid (b1.out.trans (b2.mono b1.out.size))
  have R2 := Lib.hid (hd.out.below B2.out)
  clear C2 o2 b1 b2 hd
  go_wp2_with (at_builtin; refine Hid.out ?_)
  refine Lib.hid ?_
  refine wpList_app _ rfl _ _ 23 rfl w.heap.size 5 (.int .u8 0) 1 infoB Tryd.underlying23 rfl (.slice A2 n2 c2) n2 (bv L2) rfl O2.out B m cm (bv d) rfl hbm.out R2.out (bv_one _) (by unfold maxLen; omega) (by omega) B2.out.size ?_
  intro A6 c6 w6 o6 g6 _
  have F6 : Hid (Below w.heap.size w w6) := Lib.hid (B2.out.grown g6 B2.out.size (fun k hk => (O2.out.lt k hk).1))
  replace o6 := Lib.hid o6
  clear g6 O2 R2 B2
  go_wp2_with fail
  go_ret
  have e : bv L2 ++ bv d = bv (L2 ++ d) := by simp [bv]
  rw [← e]
  exact ⟨A6, c6, rfl, o6.out, F6.out⟩
end Go.Proofs.YtdldipkbknhhoaaDoor

/- letter: a message without padding. -/
namespace Go.Proofs.YtdldipkbknhhoaaDoor
open Go.RowKit

theorem fput_len (fs : List Fd) : (fput fs).1.length ≤ 8002 := by
  unfold fput
  split
  · simp
  · rename_i h
    split
    · rename_i ha
      rw [Bool.or_eq_true, not_or] at h
      obtain ⟨h1, h2⟩ := h
      have h1 : ¬ 16 < fs.length := by simpa using h1
      have h3 : ∀ f ∈ fs, f.name.size ≤ 60 ∧ f.value.size ≤ 400 := fun f hf => by
        have hk := List.all_eq_true.1 ha f hf
        unfold fok at hk
        rw [Bool.and_eq_true] at hk
        refine ⟨nameok_size hk.1, ?_⟩
        rcases Nat.lt_or_ge 400 f.value.size with h4 | h4
        · exact absurd (List.any_eq_true.2 ⟨f, hf, decide_eq_true h4⟩) h2
        · exact h4
      have := flines_len fs h3
      simp only [List.length_cons]
      omega
    · simp
theorem ltpart_len (kind : Int) (d : List UInt8) : (ltpart kind d).length ≤ d.length + 16 := by
  have h1 : (vput kind).length ≤ 8 := by rw [vput_length]; exact vl_bd kind
  have h2 : (vput d.length).length ≤ 8 := by rw [vput_length]; exact vl_bd _
  unfold ltpart
  simp only [List.length_append]
  omega
/-- A message's parts without padding, and what is wrong. -/
def ltplain (fs : List Fd) (D : List UInt8) : List UInt8 × Int :=
  if (fput fs).2 ≠ 0 then ([], (fput fs).2) else (ltpart 1 (fput fs).1 ++ (if D.length = 0 then [] else ltpart 0 D), 0)
theorem ltplain_len (fs : List Fd) (D : List UInt8) : (ltplain fs D).1.length ≤ 8100 + D.length := by
  have h1 := fput_len fs
  have h2 := ltpart_len 1 (fput fs).1
  have h3 := ltpart_len 0 D
  unfold ltplain
  split
  · simp
  · simp only [List.length_append]
    split
    · simp only [List.length_nil]; omega
    · omega
theorem ltplain_err (fs : List Fd) (D : List UInt8) (h : (ltplain fs D).2 ≠ 0) : (ltplain fs D).1 = [] := by
  unfold ltplain at h ⊢
  by_cases h1 : (fput fs).2 ≠ 0
  · rw [if_pos h1]
  · rw [if_neg h1] at h
    exact absurd rfl h

set_option maxRecDepth 100000 in
set_option maxHeartbeats 8000000 in
theorem ltplain_any (fs : List Fd) (D : List UInt8) (A B : Option Addr) (n cap m cm : Nat) (w : World) (hn : fs.length = n) (hm : D.length = m) (hr : Rd w A (fdv fs)) (hd : Rd w B (bv D)) (hl : n ≤ 1000000) (hm1 : m ≤ 900000) (hs : ∀ f ∈ fs, f.name.size ≤ 1000000 ∧ f.value.size ≤ 1000000) :
    Calls Tryd.prog 21 #[.agg #[.slice A n cap, .slice B m cm]] w (RetP w (ltplain fs D)) := by
  have CF : Hid (∀ W, Below w.heap.size w W → Calls Tryd.prog 36 #[.slice A n cap] W (RetP W (fput fs))) := Lib.hid (fun W b => fput_any fs A cap n W hn (hr.below b) hl hs)
  have HB : Hid (∀ W, Below w.heap.size w W → Rd W B (bv D)) := Lib.hid (fun W b => hd.below b)
  obtain ⟨L, hL⟩ : ∃ x, (fput fs).1 = x := ⟨_, rfl⟩
  obtain ⟨E, hE⟩ : ∃ x, (fput fs).2 = x := ⟨_, rfl⟩
  obtain ⟨RL, hRL⟩ : ∃ x, (ltplain fs D).1 = x := ⟨_, rfl⟩
  obtain ⟨RE, hRE⟩ : ∃ x, (ltplain fs D).2 = x := ⟨_, rfl⟩
  have hLb : L.length ≤ 8002 := by rw [← hL]; exact fput_len fs
  obtain ⟨ln, hln⟩ : ∃ x, L.length = x := ⟨_, rfl⟩
  rw [hln] at hLb
  have CF2 : Hid (∀ W, Below w.heap.size w W → Calls Tryd.prog 36 #[.slice A n cap] W (fun e w' => ∃ A' c', e = .returned (.tuple #[.slice A' ln c', .int .i64 E]) ∧ w'.ownsRow W.heap.size 5 1 (.slice A' ln c') ln (bv L) ∧ Below W.heap.size W w')) := Lib.hid (fun W b => by
    refine (CF.out W b).mono ?_
    rintro e w' ⟨A', c', he, ho, hb⟩
    rw [hL] at he ho
    rw [hE] at he
    rw [hln] at he ho
    exact ⟨A', c', he, ho, hb⟩)
  have hp : Hid (∀ e w', (∃ A' c', e = .returned (.tuple #[.slice A' RL.length c', .int .i64 RE]) ∧ w'.ownsRow w.heap.size 5 1 (.slice A' RL.length c') RL.length (bv RL) ∧ Below w.heap.size w w') → RetP w (ltplain fs D) e w') := Lib.hid (fun e w' h => by
    unfold RetP
    rw [hRL, hRE]
    exact h)
  have H1 : Hid (E ≠ 0 → RL = [] ∧ RE = E) := Lib.hid (fun h => by
    rw [← hRL, ← hRE]; unfold ltplain; rw [hE, if_pos h]; exact ⟨rfl, rfl⟩)
  have H2 : Hid (E = 0 → RL = ltpart 1 L ++ (if m = 0 then [] else ltpart 0 D) ∧ RE = 0) := Lib.hid (fun h => by
    rw [← hRL, ← hRE]; unfold ltplain; rw [hE, if_neg (by rw [h]; decide), hL, hm]; exact ⟨rfl, rfl⟩)
  replace hln := Lib.hid hln
  replace hm := Lib.hid hm
  refine Calls.mono ?_ hp.out
  clear hL hE hRL hRE hr hd hn hs CF hp
  have hs1 : ∀ o, (w.alloc o).heap.size = w.heap.size + 1 := fun o => by simp
  go_enter Tryd.func21, Tryd.ntmps21
  go_wp2_with fail
  obtain ⟨wa, hwa⟩ : ∃ wa, w.alloc (.cells #[.slice A n cap, .slice B m cm] 25) = wa := ⟨_, rfl⟩
  obtain ⟨g, hg⟩ : ∃ g, w.heap.size = g := ⟨_, rfl⟩
  have X0 : wa.heap[g]? = some (.cells #[.slice A n cap, .slice B m cm] 25 (0, 0)) := by rw [← hwa, ← hg]; exact heap_alloc_new w _
  have ba : Below w.heap.size w wa := by rw [← hwa]; exact (Below.refl _ w).alloc (Nat.le_refl _) _
  rw [hwa]
  try rw [hg]
  have hsz : Hid (wa.heap.size = g + 1) := Lib.hid (by rw [← hwa, ← hg]; simp)
  replace ba := Lib.hid ba
  replace hg := Lib.hid hg
  clear hwa hs1
  refine (CF2.out _ ba.out).mono ?_
  rintro e w1 ⟨A1, c1, rfl, o1, b1⟩
  have X1 := heap_fr X0 (Fr.of_below b1 NoS) (fun x => x)
  have y1 := wrote_cell X1 1 _ rfl
  have B1 : Hid (Below w.heap.size w w1) := Lib.hid (ba.out.trans (b1.mono ba.out.size))
  have R1 := Lib.hid (Rd.of_own o1)
  replace X1 := Lib.hid X1
  clear CF2 b1 X0
  by_cases hE0 : E = 0
  · obtain ⟨e1, e2⟩ := H2.out hE0
    have bE : (E != 0) = false := by rw [hE0]; rfl
    subst hE0
    clear H1 H2 o1
    subst e2
    replace e1 := Lib.hid e1
    have CP := Lib.hid (ltpart_any 1 [] L none A1 0 0 ln c1 w1 rfl hln.out (Rd.nil _ _) R1.out (by omega) (by omega) (by omega) (by omega))
    rw [List.nil_append] at CP
    have hPl := ltpart_len 1 L
    rw [hln.out] at hPl
    obtain ⟨P1, hP1⟩ : ∃ x, ltpart 1 L = x := ⟨_, rfl⟩
    rw [hP1] at CP hPl e1
    obtain ⟨pn, hpn⟩ : ∃ x, P1.length = x := ⟨_, rfl⟩
    rw [hpn] at CP hPl
    replace hpn := Lib.hid hpn
    clear hP1 R1
    go_wp2_with fail
    refine CP.out.mono ?_
    rintro e w2 ⟨A2, c2, rfl, o2, b2⟩
    have y2 := wrote_cell (heap_fr X1.out (Fr.of_below b2 NoS) (fun x => x)) 1 _ rfl
    have B2 : Hid (Below w.heap.size w w2) := Lib.hid (B1.out.trans (b2.mono B1.out.size))
    have hw1 : Hid (w.heap.size ≤ w1.heap.size) := Lib.hid B1.out.size
    replace o2 := Lib.hid o2
    clear CP b2 B1 X1 y1
    rcases Nat.eq_zero_or_pos m with hm0 | hm0
    · have d0 : decide ((0 : Int) < (m : Int)) = false := decide_eq_false (by omega)
      have d0n : decide (0 < m) = false := decide_eq_false (by omega)
      have e3 : RL = P1 := by rw [e1.out, if_pos hm0, List.append_nil]
      subst e3
      clear e1
      replace hm0 := Lib.hid hm0
      go_wp2_with fail
      go_ret2
      rw [hpn.out]
      exact ⟨A2, c2, rfl, own_base (base2 := w.heap.size) o2.out (fun k hk => by have := (o2.out.lt k hk).1; have := hw1.out; omega), B2.out⟩
    · have d0 : decide ((0 : Int) < (m : Int)) = true := decide_eq_true (by omega)
      have d0n : decide (0 < m) = true := decide_eq_true hm0
      have e3 : Hid (RL = P1 ++ ltpart 0 D) := Lib.hid (by rw [e1.out, if_neg (by omega)])
      clear e1
      have CQ := Lib.hid (ltpart_any 0 P1 D A2 B pn c2 m cm w2 hpn.out hm.out (Rd.of_own o2.out) (HB.out _ B2.out) (by omega) (by omega) (by omega) (by omega))
      rw [← e3.out] at CQ
      clear o2 HB
      go_wp2_with fail
      refine CQ.out.mono ?_
      rintro e w3 ⟨A3, c3, rfl, o3, b3⟩
      have B3 : Hid (Below w.heap.size w w3) := Lib.hid (B2.out.trans (b3.mono B2.out.size))
      replace o3 := Lib.hid o3
      clear CQ b3
      go_wp2_with fail
      go_ret2
      exact ⟨A3, c3, rfl, own_base (base2 := w.heap.size) o3.out (fun k hk => by have := (o3.out.lt k hk).1; have := B2.out.size; omega), B3.out⟩
  · have bE : (E != 0) = true := by simpa using hE0
    obtain ⟨e1, e2⟩ := H1.out hE0
    subst e1
    subst e2
    replace hE0 := Lib.hid hE0
    clear H1 H2 o1 R1
    go_wp2_with fail
    go_ret2
    exact ⟨none, 0, rfl, World.ownsRow_nil _ _ _ _, B1.out⟩
end Go.Proofs.YtdldipkbknhhoaaDoor

/- letter: Put. (Printed by gen_ltC.py.) -/
namespace Go.Proofs.YtdldipkbknhhoaaDoor
open Go.RowKit

theorem jump_mono {l : Nat} {J J' : Act → World → Prop} {Q : Exit → Act → World → Prop} (h : ∀ a w, J a w → J' a w) : ∀ e a w, Exit.jump l J Q e a w → Exit.jump l J' Q e a w := by
  intro e a w
  cases e
  all_goals first
    | exact fun x => ⟨x.1, h _ _ x.2⟩
    | exact fun x => x
theorem wp_scope_jumps2 {P : Program} {a : Act} {w : World} {Q : Exit → Act → World → Prop} {c rest : Code} (l : Nat) (J : Act → World → Prop) (μ : Act → World → Nat) (hf : findLabel c l = some (Code.skip.seq rest))
    (pass : ∀ a w, J a w → rest.wp P (Exit.jump l (fun a' w' => J a' w' ∧ μ a' w' < μ a w) Q) a w)
    (first : (∀ a w, J a w → rest.wp P (Exit.jump l J Q) a w) → c.wp P (Exit.jump l J Q) a w) : (Code.scope c).wp P Q a w :=
  wp_scope_jumps l J μ hf (first fun a w hJ => Code.wp_mono (jump_mono fun _ _ h => h.1) (pass a w hJ)) (fun a w hJ => wp_seq (wp_skip (pass a w hJ)))
theorem own_made (w : World) (n : Nat) (hn : n ≤ 1000000) : (w.alloc (.cells (madeCells #[.int .u8 0] n) 5)).ownsRow 0 5 1 (.slice (some ⟨w.heap.size, 0, none⟩) n n) n (bv (List.replicate n 0)) := by
  refine ⟨by simp [bv], .inr ⟨w.heap.size, n, madeCells #[.int .u8 0] n, rfl, Nat.zero_le _, heap_alloc_new w _, Nat.le_refl _, by unfold maxLen; omega, ?_, ?_⟩⟩
  · have := congrArg List.length (toList_madeCells_one (.int .u8 0) n)
    simpa using this
  · rw [toList_madeCells_one]; simp [bv]
def lenv : Value → Nat | .slice _ n _ => n | _ => 0

/-- Padding. -/
def zpart (j : Nat) : List UInt8 := ltpart 33 (List.replicate j 0)
def zpads (js : List Nat) : List UInt8 := js.flatMap zpart
theorem vl_small {n : Int} (h : n < 64) : vl n = 1 := by unfold vl; rw [vlen1 h]; rfl
theorem zpart_len {j : Nat} (h : j ≤ 62) : (zpart j).length = j + 2 := by
  unfold zpart ltpart
  rw [List.length_append, List.length_append, vput_length, vput_length, List.length_replicate, vl_small (by omega), vl_small (by omega)]
  omega
theorem zpads_snoc (js : List Nat) (j : Nat) : zpads (js ++ [j]) = zpads js ++ zpart j := by simp [zpads]
/-- What is wrong; what is laid. -/
def ltE (fs : List Fd) (D : List UInt8) (b : Int) : Int :=
  if bok b = false then 13 else if (ltplain fs D).2 ≠ 0 then (ltplain fs D).2 else if ltfits (ltplain fs D).1.length b = false then 4 else 0
def LtR (fs : List Fd) (D : List UInt8) (b : Int) (R : List UInt8) : Prop :=
  (ltE fs D b ≠ 0 → R = []) ∧ (ltE fs D b = 0 → (R.length : Int) = b ∧ ∃ js : List Nat, (∀ j ∈ js, j ≤ 62) ∧ R = (ltplain fs D).1 ++ zpads js)
def RetPut (w : World) (fs : List Fd) (D : List UInt8) (b : Int) (e : Ending) (w' : World) : Prop :=
  ∃ R A c, e = .returned (.tuple #[.slice A R.length c, .int .i64 (ltE fs D b)]) ∧ LtR fs D b R ∧ w'.ownsRow w.heap.size 5 1 (.slice A R.length c) R.length (bv R) ∧ Below w.heap.size w w'
theorem bok_bd {b : Int} (h : bok b = true) : 256 ≤ b ∧ b ≤ 1024 := by
  have := of_decide_eq_true h
  omega

/-- Where Put stands at its label. -/
structure LtJ (w0 : World) (base : List UInt8) (b : Int) (w : World) (A : Option Addr) (c n : Nat) (acc : List UInt8) : Prop where
  own : w.ownsRow w0.heap.size 5 1 (.slice A n c) n (bv acc)
  len : acc.length = n
  js : ∃ js : List Nat, (∀ j ∈ js, j ≤ 62) ∧ acc = base ++ zpads js
  le : (n : Int) ≤ b
  ne : b - n ≠ 1
  bel : Below w0.heap.size w0 w
  bb : b ≤ 1024
def JAt (w0 : World) (E : Int) (base : List UInt8) (b : Int) (A0 : Option Addr) (m0 p0 : Nat) (B : Option Addr) (m cm g : Nat) (a : Act) (w : World) : Prop :=
  ∃ A c n acc, (E = 0 ∧ LtJ w0 base b w A c n acc) ∧ ∃ u3 u8 u9 u10 u11 u12 u13 u14 u15 u16 u17 u18 u19 u20 u21 u22 u23 u24 u25 u26 u27 u28 u29 u30 u31 u32 u33 u34 u35 u36 u37 u38 u39 u40 u41 u42 u43 u44 u45 u46 u47 u48, a = { tmps := #[.agg #[.slice A0 m0 p0, .slice B m cm], .int .i64 b, .pointer (some ⟨g, 0, none⟩), u3, .slice none 0 0, .int .i64 0, .slice A n c, .int .i64 0, u8, u9, u10, u11, u12, u13, u14, u15, u16, u17, u18, u19, u20, u21, u22, u23, u24, u25, u26, u27, u28, u29, u30, u31, u32, u33, u34, u35, u36, u37, u38, u39, u40, u41, u42, u43, u44, u45, u46, u47, u48], defers := [] }
/-- A part more. -/
theorem LtJ.next {w0 w w' : World} {base : List UInt8} {b : Int} {A A' : Option Addr} {c c' n j : Nat} {acc : List UInt8} (h : LtJ w0 base b w A c n acc) (hj : j ≤ 62) (hb : (n : Int) + (j + 2) ≤ b) (hne : b - (n + (j + 2)) ≠ 1) {B : Nat} (hB : w0.heap.size ≤ B)
    (o : w'.ownsRow B 5 1 (.slice A' (acc ++ zpart j).length c') (acc ++ zpart j).length (bv (acc ++ zpart j))) (bel : Below w.heap.size w w') : LtJ w0 base b w' A' c' (n + (j + 2)) (acc ++ zpart j) := by
  have hl : (acc ++ zpart j).length = n + (j + 2) := by rw [List.length_append, h.len, zpart_len hj]
  rw [hl] at o
  obtain ⟨js, hjs, e⟩ := h.js
  refine ⟨own_base (base2 := w0.heap.size) o (fun k hk => by have := (o.lt k hk).1; omega), hl, ⟨js ++ [j], fun x hx => ?_, by rw [zpads_snoc, e, List.append_assoc]⟩, by omega, by omega, h.bel.trans (bel.mono h.bel.size), h.bb⟩
  rcases List.mem_append.1 hx with h1 | h1
  · exact hjs x h1
  · rw [List.mem_singleton.1 h1]; exact hj

set_option maxRecDepth 100000 in
set_option maxHeartbeats 16000000 in
theorem ltput_any (fs : List Fd) (D : List UInt8) (b : Int) (A0 B : Option Addr) (m0 p0 m cm : Nat) (w : World) (hbk : BK w) (hn : fs.length = m0) (hm : D.length = m) (hr : Rd w A0 (fdv fs)) (hd : Rd w B (bv D)) (hl : m0 ≤ 1000000) (hm1 : m ≤ 900000) (hs : ∀ f ∈ fs, f.name.size ≤ 1000000 ∧ f.value.size ≤ 1000000) :
    Calls Tryd.prog 10 #[.agg #[.slice A0 m0 p0, .slice B m cm], .int .i64 b] w (RetPut w fs D b) := by
  obtain ⟨E, hE⟩ : ∃ x, ltE fs D b = x := ⟨_, rfl⟩
  have hfin : Hid (∀ e w', (∃ R A c, e = .returned (.tuple #[.slice A R.length c, .int .i64 E]) ∧ LtR fs D b R ∧ w'.ownsRow w.heap.size 5 1 (.slice A R.length c) R.length (bv R) ∧ Below w.heap.size w w') → RetPut w fs D b e w') := Lib.hid (fun e w' h => by
    unfold RetPut; rw [hE]; exact h)
  refine Calls.mono ?_ hfin.out
  clear hfin
  obtain ⟨v, hv⟩ : ∃ x, bok b = x := ⟨_, rfl⟩
  obtain ⟨P, hP⟩ : ∃ x, (ltplain fs D).1 = x := ⟨_, rfl⟩
  obtain ⟨F, hF⟩ : ∃ x, (ltplain fs D).2 = x := ⟨_, rfl⟩
  obtain ⟨pn, hpn⟩ : ∃ x, P.length = x := ⟨_, rfl⟩
  obtain ⟨ft, hft⟩ : ∃ x, ltfits (pn : Int) b = x := ⟨_, rfl⟩
  have CB : Hid (∀ W, Below w.heap.size w W → Calls Tryd.prog 12 #[.int .i64 b] W fun e w' => e = .returned (.bool v) ∧ W = w') := Lib.hid (fun W bl => by rw [← hv]; exact bucket_any b W (hbk.below bl))
  have CP : Hid (∀ W, Below w.heap.size w W → Calls Tryd.prog 21 #[.agg #[.slice A0 m0 p0, .slice B m cm]] W fun e w' => ∃ A' c', e = .returned (.tuple #[.slice A' pn c', .int .i64 F]) ∧ w'.ownsRow W.heap.size 5 1 (.slice A' pn c') pn (bv P) ∧ Below W.heap.size W w') := Lib.hid (fun W bl => by
    refine (ltplain_any fs D A0 B m0 p0 m cm W hn hm (hr.below bl) (hd.below bl) hl hm1 hs).mono ?_
    rintro e w' ⟨A', c', he, ho, hb⟩
    rw [hP] at he ho
    rw [hF] at he
    rw [hpn] at he ho
    exact ⟨A', c', he, ho, hb⟩)
  have hPb : pn ≤ 1000000 := by have := ltplain_len fs D; rw [hP, hpn, hm] at this; omega
  have hEE : Hid (E = if v = false then 13 else if F ≠ 0 then F else if ft = false then 4 else 0) := Lib.hid (by rw [← hE]; unfold ltE; rw [hv, hF, hP, hpn, hft])
  have hLR : Hid (∀ R, ((E ≠ 0 → R = []) ∧ (E = 0 → (R.length : Int) = b ∧ ∃ js : List Nat, (∀ j ∈ js, j ≤ 62) ∧ R = P ++ zpads js)) → LtR fs D b R) := Lib.hid (fun R h => by unfold LtR; rw [hE, hP]; exact h)
  have hvb : Hid (v = true → 256 ≤ b ∧ b ≤ 1024) := Lib.hid (fun h => bok_bd (by rw [hv, h]))
  have hftb : Hid (ft = true → (pn : Int) = b ∨ (pn : Int) ≤ b - 2) := Lib.hid (fun h => of_decide_eq_true (by unfold ltfits at hft; rw [hft, h]))
  have CF : Hid (∀ W, v = true → Calls Tryd.prog 22 #[.int .i64 (pn : Int), .int .i64 b] W fun e w' => e = .returned (.bool ft) ∧ W = w') := Lib.hid (fun W h => by rw [← hft]; exact ltfits_any pn b W (by have := hvb.out h; omega) (by have := hvb.out h; omega))
  replace hpn := Lib.hid hpn
  clear hE hv hP hF hft hbk hn hm hr hd hs
  have hs1 : ∀ o, (w.alloc o).heap.size = w.heap.size + 1 := fun o => by simp
  obtain ⟨g, hg⟩ : ∃ g, w.heap.size = g := ⟨_, rfl⟩
  obtain ⟨wa, hwa⟩ : ∃ wa, w.alloc (.cells #[.slice A0 m0 p0, .slice B m cm] 25) = wa := ⟨_, rfl⟩
  have X0 : wa.heap[g]? = some (.cells #[.slice A0 m0 p0, .slice B m cm] 25 (0, 0)) := by rw [← hwa, ← hg]; exact heap_alloc_new w _
  have ba : Hid (Below w.heap.size w wa) := Lib.hid (by rw [← hwa]; exact (Below.refl _ w).alloc (Nat.le_refl _) _)
  have hsz : Hid (wa.heap.size = g + 1) := Lib.hid (by rw [← hwa, ← hg]; simp)
  go_enter Tryd.func10, Tryd.ntmps10
  go_wp2_with fail
  try rw [hwa]
  try rw [hg]
  replace hwa := Lib.hid hwa
  have hg2 := Lib.hid hg
  clear hs1
  clear hg
  refine wp_scope_jumps2 0 (JAt w E P b A0 m0 p0 B m cm g) (fun a' _ => 2000 - lenv (a'.tmps.getD 6 undef)) rfl ?_ ?_
  · rintro a wr ⟨A, c, n, acc, ⟨hE0, HJ⟩, u3, u8, u9, u10, u11, u12, u13, u14, u15, u16, u17, u18, u19, u20, u21, u22, u23, u24, u25, u26, u27, u28, u29, u30, u31, u32, u33, u34, u35, u36, u37, u38, u39, u40, u41, u42, u43, u44, u45, u46, u47, u48, rfl⟩
    subst hE0
    have hle := HJ.le
    have hne := HJ.ne
    have hbb := HJ.bb
    obtain ⟨left, hleft⟩ : ∃ left : Nat, (left : Int) = b - n := ⟨(b - n).toNat, by omega⟩
    have hw : IntKind.i64.wrap (b - (n : Int)) = (left : Int) := by rw [IntKind.wrap_i64]; omega
    by_cases h0 : left = 0
    · have d0 : ((left : Int) == 0) = true := beq_iff_eq.2 (by omega)
      have hR : Hid (LtR fs D b acc) := Lib.hid (hLR.out acc ⟨fun h => absurd rfl h, fun _ => ⟨by rw [HJ.len]; omega, HJ.js⟩⟩)
      have hlen := Lib.hid HJ.len
      have HO := Lib.hid HJ.own
      have HB := Lib.hid HJ.bel
      clear HJ CB CP CF hEE hLR hvb hftb hPb hpn ba hsz hwa X0 hle hne
      replace h0 := Lib.hid h0
      go_wp2_with fail
      simp only [Exit.jump]
      go_ret2
      exact ⟨acc, A, c, by rw [hlen.out]; rfl, hR.out, by rw [hlen.out]; exact HO.out, HB.out⟩
    · have d0 : ((left : Int) == 0) = false := beq_eq_false_iff_ne.2 (by omega)
      clear CB CP CF hEE hLR hvb hftb hPb hpn ba hsz hwa X0
      by_cases h64 : left ≤ 64
      · obtain ⟨j, hj⟩ : ∃ j : Nat, left = j + 2 := ⟨left - 2, by omega⟩
        have d1 : decide ((left : Int) ≤ 64) = true := decide_eq_true (by omega)
        have d1n : decide (left ≤ 64) = true := decide_eq_true h64
        have HMIN : ∀ (ts : Array TypeId) (t : TypeId) (w : World), (Builtin.min_ ts t #[.int .i64 (left : Int), .int .i64 64]).run Tryd.prog w = .ok (.int .i64 (left : Int)) w := fun ts t w => run_min2 _ _ _ (by omega) ts t w
        have hwj : IntKind.i64.wrap ((left : Int) - 2) = (j : Int) := by rw [IntKind.wrap_i64]; omega
        have HM : ∀ w : World, (Instr.makeSlice 23 (.int .i64 (j : Int)) (.int .i64 (j : Int))).run Tryd.prog w = .ok (.slice (some ⟨w.heap.size, 0, none⟩) j j) (w.alloc (.cells (madeCells #[.int .u8 0] j) 5)) := fun w =>
          run_make_row' (P := Tryd.prog) 23 5 (.int .u8 0) 1 Tryd.underlying23 infoB rfl .i64 .i64 j (by omega) (by omega) w
        have CQ := Lib.hid (ltpart_any 33 acc (List.replicate j 0) A (some ⟨wr.heap.size, 0, none⟩) n c j j (wr.alloc (.cells (madeCells #[.int .u8 0] j) 5)) HJ.len (by simp) ((Rd.of_own HJ.own).alloc _) (Rd.of_own (own_made wr j (by omega))) (by omega) (by omega) (by omega) (by omega))
        have HN : Hid (∀ A' c' w', w'.ownsRow (wr.heap.size + 1) 5 1 (.slice A' (acc ++ zpart j).length c') (acc ++ zpart j).length (bv (acc ++ zpart j)) → Below wr.heap.size wr w' → LtJ w P b w' A' c' (n + (j + 2)) (acc ++ zpart j)) := Lib.hid (fun A' c' w' o bl => HJ.next (by omega) (by omega) (by omega) (by have := HJ.bel.size; omega) o bl)
        have hN2 : Hid ((acc ++ ltpart 33 (List.replicate j 0)).length = n + (j + 2)) := Lib.hid (by have := zpart_len (j := j) (by omega); unfold zpart at this; rw [List.length_append, HJ.len, this])
        rw [hN2.out] at CQ
        clear HJ hle hne h0
        go_wp2_with fail
        refine CQ.out.mono ?_
        rintro e w2 ⟨A2, c2, rfl, o2, b2⟩
        have H2 := HN.out A2 c2 w2 (by
          rw [show (acc ++ zpart j).length = n + (j + 2) from hN2.out]
          have := o2
          rw [show ∀ o, (wr.alloc o).heap.size = wr.heap.size + 1 from fun o => by simp] at this
          exact this) (((Below.refl _ wr).alloc (Nat.le_refl _) _).trans (b2.mono (by simp)))
        replace H2 := Lib.hid H2
        clear CQ HN hN2 o2 b2
        go_wp2_with fail
        go_step3
        refine ⟨rfl, ⟨_, _, _, _, ⟨rfl, H2.out⟩, _, _, _, _, _, _, _, _, _, _, _, _, _, _, _, _, _, _, _, _, _, _, _, _, _, _, _, _, _, _, _, _, _, _, _, _, _, _, _, _, _, _, rfl⟩, ?_⟩
        simp [lenv]
        omega
      · by_cases h66 : 66 < left
        · have d1 : decide ((left : Int) ≤ 64) = false := decide_eq_false (by omega)
          have d1n : decide (left ≤ 64) = false := decide_eq_false h64
          have d2 : decide ((66 : Int) < (left : Int)) = true := decide_eq_true (by omega)
          have d2n : decide (66 < left) = true := decide_eq_true h66
          have HMIN : ∀ (ts : Array TypeId) (t : TypeId) (w : World), (Builtin.min_ ts t #[.int .i64 (left : Int), .int .i64 64]).run Tryd.prog w = .ok (.int .i64 64) w := fun ts t w => run_min2 _ _ _ (by omega) ts t w
          have HM : ∀ w : World, (Instr.makeSlice 23 (.int .i64 62) (.int .i64 62)).run Tryd.prog w = .ok (.slice (some ⟨w.heap.size, 0, none⟩) 62 62) (w.alloc (.cells (madeCells #[.int .u8 0] 62) 5)) := fun w =>
            run_make_row' (P := Tryd.prog) 23 5 (.int .u8 0) 1 Tryd.underlying23 infoB rfl .i64 .i64 62 (by omega) (by omega) w
          have CQ := Lib.hid (ltpart_any 33 acc (List.replicate 62 0) A (some ⟨wr.heap.size, 0, none⟩) n c 62 62 (wr.alloc (.cells (madeCells #[.int .u8 0] 62) 5)) HJ.len (by simp) ((Rd.of_own HJ.own).alloc _) (Rd.of_own (own_made wr 62 (by omega))) (by omega) (by omega) (by omega) (by omega))
          have HN : Hid (∀ A' c' w', w'.ownsRow (wr.heap.size + 1) 5 1 (.slice A' (acc ++ zpart 62).length c') (acc ++ zpart 62).length (bv (acc ++ zpart 62)) → Below wr.heap.size wr w' → LtJ w P b w' A' c' (n + (62 + 2)) (acc ++ zpart 62)) := Lib.hid (fun A' c' w' o bl => HJ.next (by omega) (by omega) (by omega) (by have := HJ.bel.size; omega) o bl)
          have hN2 : Hid ((acc ++ ltpart 33 (List.replicate 62 0)).length = n + (62 + 2)) := Lib.hid (by have := zpart_len (j := 62) (by omega); unfold zpart at this; rw [List.length_append, HJ.len, this])
          rw [hN2.out] at CQ
          clear HJ hle hne h0
          go_wp2_with fail
          refine CQ.out.mono ?_
          rintro e w2 ⟨A2, c2, rfl, o2, b2⟩
          have H2 := HN.out A2 c2 w2 (by
            rw [show (acc ++ zpart 62).length = n + (62 + 2) from hN2.out]
            have := o2
            rw [show ∀ o, (wr.alloc o).heap.size = wr.heap.size + 1 from fun o => by simp] at this
            exact this) (((Below.refl _ wr).alloc (Nat.le_refl _) _).trans (b2.mono (by simp)))
          replace H2 := Lib.hid H2
          clear CQ HN hN2 o2 b2
          go_wp2_with fail
          go_step3
          refine ⟨rfl, ⟨_, _, _, _, ⟨rfl, H2.out⟩, _, _, _, _, _, _, _, _, _, _, _, _, _, _, _, _, _, _, _, _, _, _, _, _, _, _, _, _, _, _, _, _, _, _, _, _, _, _, _, _, _, _, rfl⟩, ?_⟩
          simp [lenv]
          omega
        · have d1 : decide ((left : Int) ≤ 64) = false := decide_eq_false (by omega)
          have d1n : decide (left ≤ 64) = false := decide_eq_false h64
          have d2 : decide ((66 : Int) < (left : Int)) = false := decide_eq_false (by omega)
          have d2n : decide (66 < left) = false := decide_eq_false h66
          have HM : ∀ w : World, (Instr.makeSlice 23 (.int .i64 30) (.int .i64 30)).run Tryd.prog w = .ok (.slice (some ⟨w.heap.size, 0, none⟩) 30 30) (w.alloc (.cells (madeCells #[.int .u8 0] 30) 5)) := fun w =>
            run_make_row' (P := Tryd.prog) 23 5 (.int .u8 0) 1 Tryd.underlying23 infoB rfl .i64 .i64 30 (by omega) (by omega) w
          have CQ := Lib.hid (ltpart_any 33 acc (List.replicate 30 0) A (some ⟨wr.heap.size, 0, none⟩) n c 30 30 (wr.alloc (.cells (madeCells #[.int .u8 0] 30) 5)) HJ.len (by simp) ((Rd.of_own HJ.own).alloc _) (Rd.of_own (own_made wr 30 (by omega))) (by omega) (by omega) (by omega) (by omega))
          have HN : Hid (∀ A' c' w', w'.ownsRow (wr.heap.size + 1) 5 1 (.slice A' (acc ++ zpart 30).length c') (acc ++ zpart 30).length (bv (acc ++ zpart 30)) → Below wr.heap.size wr w' → LtJ w P b w' A' c' (n + (30 + 2)) (acc ++ zpart 30)) := Lib.hid (fun A' c' w' o bl => HJ.next (by omega) (by omega) (by omega) (by have := HJ.bel.size; omega) o bl)
          have hN2 : Hid ((acc ++ ltpart 33 (List.replicate 30 0)).length = n + (30 + 2)) := Lib.hid (by have := zpart_len (j := 30) (by omega); unfold zpart at this; rw [List.length_append, HJ.len, this])
          rw [hN2.out] at CQ
          clear HJ hle hne h0
          go_wp2_with fail
          refine CQ.out.mono ?_
          rintro e w2 ⟨A2, c2, rfl, o2, b2⟩
          have H2 := HN.out A2 c2 w2 (by
            rw [show (acc ++ zpart 30).length = n + (30 + 2) from hN2.out]
            have := o2
            rw [show ∀ o, (wr.alloc o).heap.size = wr.heap.size + 1 from fun o => by simp] at this
            exact this) (((Below.refl _ wr).alloc (Nat.le_refl _) _).trans (b2.mono (by simp)))
          replace H2 := Lib.hid H2
          clear CQ HN hN2 o2 b2
          go_wp2_with fail
          go_step3
          refine ⟨rfl, ⟨_, _, _, _, ⟨rfl, H2.out⟩, _, _, _, _, _, _, _, _, _, _, _, _, _, _, _, _, _, _, _, _, _, _, _, _, _, _, _, _, _, _, _, _, _, _, _, _, _, _, _, _, _, _, rfl⟩, ?_⟩
          simp [lenv]
          omega
  · intro hp
    go_wp2_with fail
    refine (CB.out _ ba.out).mono ?_
    rintro e w' ⟨rfl, rfl⟩
    clear CB
    cases v with
    | false =>
      have hE := hEE.out
      rw [if_pos rfl] at hE
      have hR : Hid (LtR fs D b []) := Lib.hid (hLR.out [] ⟨fun _ => rfl, fun h => absurd (hE.symm.trans h) (by decide)⟩)
      subst hE
      clear CP CF hEE hLR hvb hftb hp
      go_wp2_with fail
      simp only [Exit.jump]
      go_ret2
      exact ⟨[], none, 0, rfl, hR.out, World.ownsRow_nil _ _ _ _, ba.out⟩
    | true =>
      have hvb1 := hvb.out rfl
      have hE1 : Hid (E = if F ≠ 0 then F else if ft = false then 4 else 0) := Lib.hid (by have := hEE.out; rw [if_neg (by decide)] at this; exact this)
      have y0 := wrote_cell X0 0 _ rfl
      have y1 := wrote_cell X0 1 _ rfl
      clear hEE hvb
      go_wp2_with fail
      refine (CP.out _ ba.out).mono ?_
      rintro e w1 ⟨A1, c1, rfl, o1, b1⟩
      have B1 : Hid (Below w.heap.size w w1) := Lib.hid (ba.out.trans (b1.mono ba.out.size))
      have O1 := Lib.hid (own_base (base2 := w.heap.size) o1 (fun k hk => by have := (o1.lt k hk).1; have := ba.out.size; omega))
      clear CP o1 b1 y0 y1
      by_cases hF : F = 0
      · have bF : (F != 0) = false := by rw [hF]; rfl
        have hE2 : Hid (E = if ft = false then 4 else 0) := Lib.hid (by have := hE1.out; rw [if_neg (by rw [hF]; decide)] at this; exact this)
        subst hF
        clear hE1
        go_wp2_with fail
        refine (CF.out _ (by first | rfl | trivial)).mono ?_
        rintro e w' ⟨rfl, rfl⟩
        clear CF
        cases ft with
        | false =>
          have hE := hE2.out
          rw [if_pos rfl] at hE
          have hR : Hid (LtR fs D b []) := Lib.hid (hLR.out [] ⟨fun _ => rfl, fun h => absurd (hE.symm.trans h) (by decide)⟩)
          subst hE
          clear hE2 hLR hftb hp
          go_wp2_with fail
          simp only [Exit.jump]
          go_ret2
          exact ⟨[], none, 0, rfl, hR.out, World.ownsRow_nil _ _ _ _, B1.out⟩
        | true =>
          have hE := hE2.out
          rw [if_neg (by decide)] at hE
          have HJ : Hid (LtJ w P b w1 A1 c1 pn P) := Lib.hid ⟨O1.out, hpn.out, ⟨[], by simp, by simp [zpads]⟩, by have := hftb.out rfl; omega, by have := hftb.out rfl; omega, B1.out, by omega⟩
          clear hE2 hLR hftb O1 B1
          replace hE := Lib.hid hE
          go_wp2_with fail
          go_step3
          simp only [Exit.then]
          apply_assumption
          refine hp _ _ ?_
          exact ⟨_, _, _, _, ⟨hE.out, HJ.out⟩, _, _, _, _, _, _, _, _, _, _, _, _, _, _, _, _, _, _, _, _, _, _, _, _, _, _, _, _, _, _, _, _, _, _, _, _, _, _, _, _, _, _, rfl⟩
      · have bF : (F != 0) = true := by simpa using hF
        have hE := hE1.out
        rw [if_pos hF] at hE
        have hR : Hid (LtR fs D b []) := Lib.hid (hLR.out [] ⟨fun _ => rfl, fun h => absurd (hE.symm.trans h) hF⟩)
        subst hE
        replace hF := Lib.hid hF
        clear CF hE1 hLR hftb hp O1
        go_wp2_with fail
        simp only [Exit.jump]
        go_ret2
        exact ⟨[], none, 0, rfl, hR.out, World.ownsRow_nil _ _ _ _, B1.out⟩
end Go.Proofs.YtdldipkbknhhoaaDoor
