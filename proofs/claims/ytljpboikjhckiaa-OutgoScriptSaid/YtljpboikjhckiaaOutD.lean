/- outgo: turn, There, Lost: what they leave. -/
import Derived.Test.YtljpboikjhckiaaOutB
import Derived.Test.YtljpboikjhckiaaConB
namespace Go.Proofs.Ytljpboikjhckiaa
open Go.RowKit

def onorm (off m : Int) : Int × Int := if off < 0 ∧ 0 < m then (0, m + off) else (off, m)
/-- Is place k among those that are told? (off, m as they are behind the norm) -/
def within (n : Nat) (off m : Int) (e : Bool) (k : Nat) : Bool := (decide (k < n) && (decide (0 < m) && (decide (off ≤ k) && decide ((k : Int) - off < m)))) || (decide (k = n) && e)
def turn1 (n : Nat) (off m : Int) (e : Bool) (to : UInt8) (from_ : List UInt8) (k : Nat) (x : UInt8) : UInt8 := if within n off m e k && decide (x ∈ from_) then to else x
/-- The states behind turn, up to place k. -/
def turnP (S : List UInt8) (f : Nat → UInt8 → UInt8) (k : Nat) : List UInt8 := S.mapIdx fun i x => if i < k then f i x else x
def oturn (S : List UInt8) (n : Nat) (off m : Int) (e : Bool) (to : UInt8) (from_ : List UInt8) : List UInt8 :=
  S.mapIdx (turn1 n (onorm off m).1 (onorm off m).2 e to from_)
@[simp] theorem turnP_length (S : List UInt8) (f : Nat → UInt8 → UInt8) (k : Nat) : (turnP S f k).length = S.length := by simp [turnP]
theorem turnP_zero (S : List UInt8) (f : Nat → UInt8 → UInt8) : turnP S f 0 = S := by
  apply List.ext_getElem <;> simp [turnP]
theorem turnP_all (S : List UInt8) (f : Nat → UInt8 → UInt8) : turnP S f S.length = S.mapIdx f := by
  apply List.ext_getElem
  · simp [turnP]
  · intro i h1 h2
    simp only [turnP_length] at h1
    simp [turnP, h1]
theorem turnP_succ (S : List UInt8) (f : Nat → UInt8 → UInt8) (k : Nat) (hk : k < S.length) : turnP S f (k + 1) = (turnP S f k).set k (f k S[k]) := by
  apply List.ext_getElem
  · simp [turnP]
  · intro i h1 h2
    simp only [turnP, List.getElem_mapIdx, List.getElem_set]
    by_cases h : k = i
    · subst h; rw [if_pos (by omega), if_pos rfl]
    · rw [if_neg h]
      by_cases h3 : i < k
      · rw [if_pos (by omega), if_pos h3]
      · rw [if_neg (by omega), if_neg h3]
theorem turnP_get (S : List UInt8) (f : Nat → UInt8 → UInt8) (k : Nat) (hk : k < S.length) : (turnP S f k)[k]'(by simpa using hk) = S[k] := by
  simp [turnP]
theorem turnP_same (S : List UInt8) (f : Nat → UInt8 → UInt8) (k : Nat) (hk : k < S.length) (h : f k S[k] = S[k]) : turnP S f (k + 1) = turnP S f k := by
  rw [turnP_succ S f k hk, h]
  apply List.ext_getElem
  · simp
  · intro i h1 h2
    rw [List.getElem_set]
    split
    · rename_i e; subst e; exact (turnP_get S f k hk).symm
    · rfl

section
variable {w w' : World} {p g n : Nat} {AD : Option Addr} {cD : Nat} {D S : List UInt8}
/-- One state turned. -/
theorem IsOut.set (h : IsOut w p g n AD cD D S) (k : Nat) (x : UInt8) : IsOut (w.setCell ⟨g, k, none⟩ (.int .u8 x.toNat)) p g n AD cD D (S.set k x) := by
  have hpg := h.pg
  have f : Fr (· = g) w (w.setCell ⟨g, k, none⟩ (.int .u8 x.toNat)) := (Fr.refl (· = g) w).setCell (p := ⟨g, k, none⟩) (fun _ => rfl) _
  refine ⟨heap_fr h.cell f hpg, ?_, h.rd.fr f (fun _ a ha => h.ne a ha), h.lD, h.cap, h.ne, h.small, h.nl⟩
  rw [bv, List.map_set]
  exact (h.row.stored k _).1

set_option maxRecDepth 100000 in
set_option maxHeartbeats 8000000 in
theorem turn_core (h : IsOut w p g n AD cD D S) (off0 m0 off m : Int) (e : Bool) (to : UInt8) (from_ : List UInt8) (Af : Option Addr) (cf : Nat) (hf : Rd w Af (bv from_)) (hfg : ∀ a, Af = some a → a.block ≠ g) (hfl : from_.length ≤ 10)
    (ho0 : -9223372036854775808 ≤ off0) (ho1 : off0 ≤ 9223372036854775807) (hm0 : -9223372036854775808 ≤ m0) (hm1 : m0 ≤ 9223372036854775807) (hn : Hid (onorm off0 m0 = (off, m))) (hpos : 0 < m → 0 ≤ off)
    (hcase : (off0 < 0 ∧ 0 < m0 ∧ off = 0 ∧ m = m0 + off0) ∨ (¬ (off0 < 0 ∧ 0 < m0) ∧ off = off0 ∧ m = m0)) :
    Calls Try.prog 29 #[.pointer (some ⟨p, 0, none⟩), .int .i64 off0, .int .i64 m0, .bool e, .int .u8 to.toNat, .slice Af from_.length cf] w fun r w' => r = .returned (.tuple #[]) ∧ IsOut w' p g n AD cD D (oturn S n off0 m0 e to from_) ∧ Fr (· = g) w w' := by
  have c0 := wrote_cell h.cell 0 _ rfl
  have c1 := wrote_cell h.cell 1 _ rfl
  have hs := h.small
  have hl := h.lS
  obtain ⟨f, hff⟩ : ∃ f, f = turn1 n off m e to from_ := ⟨_, rfl⟩
  replace hff := Lib.hid hff
  replace hl := Lib.hid hl
  replace hf := Lib.hid hf
  replace hfg := Lib.hid hfg
  replace h := Lib.hid h
  replace hpos := Lib.hid hpos
  cases e with
  | true =>
    rcases hcase with ⟨h1, h2, rfl, rfl⟩ | ⟨h1, rfl, rfl⟩
    · skip
      go_enter Try.func29, Try.ntmps29
      go_wp2_with fail
      go_loopw [36] (fun i wr => ∃ k : Nat, k ≤ n + 1 ∧ i = .int .i64 k ∧ IsOut wr p g n AD cD D (turnP S f k) ∧ Fr (· = g) w wr) (fun i _ => n + 1 - (intOf i).toNat)
      case atStart => exact ⟨0, by omega, rfl, by rw [turnP_zero]; exact h.out, Fr.refl _ _⟩
      case round =>
        clear c0 c1
        obtain ⟨k, hk, rfl, hJ, hG⟩ := hrel
        have c0 := wrote_cell hJ.cell 0 _ rfl
        have c1 := wrote_cell hJ.cell 1 _ rfl
        by_cases hkn : k < n + 1
        · have q1 := hJ.row.frozenAt k
          obtain ⟨b1, o1, e1, g1⟩ := hJ.rdS.at_ (k := k) (by have := hl.out; simp; omega)
          injection e1 with e1
          injection e1 with e1 e2
          subst e1 e2
          simp only [bv, List.getElem_map, Nat.zero_add] at g1
          rw [turnP_get S f k (by have := hl.out; omega)] at g1
          obtain ⟨v, hv⟩ : ∃ v, S[k]'(by have := hl.out; omega) = v := ⟨_, rfl⟩
          rw [hv] at g1
          have hvS := Lib.hid hv
          clear hv
          replace hJ := Lib.hid hJ
          replace hG := Lib.hid hG
          by_cases hk2 : k < n
          · by_cases hm : 0 < m0 + off0
            · skip
              by_cases hok : (0 : Int) ≤ k
              · by_cases hd : (k : Int) < m0 + off0
                · skip
                  have hw : Hid (within n 0 (m0 + off0) true k = true) := Lib.hid (by unfold within; simp <;> omega)
                  have CC := Lib.hid (contb_any from_ v Af cf wr (hf.out.fr hG.out (fun _ a ha => hfg.out a ha)) (by omega))
                  by_cases hv : v ∈ from_
                  · rw [decide_eq_true hv] at CC
                    have HF : Hid (turnP S f (k + 1) = (turnP S f k).set k to) := Lib.hid (by rw [turnP_succ S f k (by have := hl.out; omega), hff.out]; unfold turn1; rw [hw.out, hvS.out, decide_eq_true hv]; rfl)
                    have hJ2 := Lib.hid (hJ.out.set k to)
                    have hG2 := Lib.hid (hG.out.setCell (p := ⟨g, k, none⟩) (fun _ => rfl) (.int .u8 to.toNat))
                    replace hv := Lib.hid hv
                    go_wp2_with fail
                    refine CC.out.mono ?_
                    rintro r w' ⟨rfl, rfl⟩
                    go_wp2_with fail
                    go_roundw
                    case rel => exact ⟨k + 1, by omega, by go_num, by rw [HF.out]; exact hJ2.out, hG2.out⟩
                    case measure => simp [intOf] <;> omega
                  · rw [decide_eq_false hv] at CC
                    have HF : Hid (turnP S f (k + 1) = turnP S f k) := Lib.hid (turnP_same S f k (by have := hl.out; omega) (by rw [hff.out]; unfold turn1; rw [hw.out, hvS.out, decide_eq_false hv]; rfl))
                    replace hv := Lib.hid hv
                    go_wp2_with fail
                    refine CC.out.mono ?_
                    rintro r w' ⟨rfl, rfl⟩
                    go_wp2_with fail
                    go_roundw
                    case rel => exact ⟨k + 1, by omega, by go_num, by rw [HF.out]; exact hJ.out, hG.out⟩
                    case measure => simp [intOf] <;> omega
                · skip
                  have HF : Hid (turnP S f (k + 1) = turnP S f k) := Lib.hid (turnP_same S f k (by have := hl.out; omega) (by rw [hff.out]; unfold turn1; rw [show within n 0 (m0 + off0) true k = false from by unfold within; simp <;> omega]; rfl))
                  go_wp2_with fail
                  all_goals
                    go_roundw
                    case rel => exact ⟨k + 1, by omega, by go_num, by rw [HF.out]; exact hJ.out, hG.out⟩
                    case measure => simp [intOf] <;> omega
              · skip
                have HF : Hid (turnP S f (k + 1) = turnP S f k) := Lib.hid (turnP_same S f k (by have := hl.out; omega) (by rw [hff.out]; unfold turn1; rw [show within n 0 (m0 + off0) true k = false from by unfold within; simp <;> omega]; rfl))
                go_wp2_with fail
                all_goals
                  go_roundw
                  case rel => exact ⟨k + 1, by omega, by go_num, by rw [HF.out]; exact hJ.out, hG.out⟩
                  case measure => simp [intOf] <;> omega
            · skip
              have HF : Hid (turnP S f (k + 1) = turnP S f k) := Lib.hid (turnP_same S f k (by have := hl.out; omega) (by rw [hff.out]; unfold turn1; rw [show within n 0 (m0 + off0) true k = false from by unfold within; simp <;> omega]; rfl))
              go_wp2_with fail
              all_goals
                go_roundw
                case rel => exact ⟨k + 1, by omega, by go_num, by rw [HF.out]; exact hJ.out, hG.out⟩
                case measure => simp [intOf] <;> omega
          · have hkeq : k = n := by omega
            subst hkeq
            have hee : ((k : Int) == k) = true := beq_self_eq_true _
            have hw : Hid (within k 0 (m0 + off0) true k = true) := Lib.hid (by unfold within; simp <;> omega)
            have CC := Lib.hid (contb_any from_ v Af cf wr (hf.out.fr hG.out (fun _ a ha => hfg.out a ha)) (by omega))
            by_cases hv : v ∈ from_
            · rw [decide_eq_true hv] at CC
              have HF : Hid (turnP S f (k + 1) = (turnP S f k).set k to) := Lib.hid (by rw [turnP_succ S f k (by have := hl.out; omega), hff.out]; unfold turn1; rw [hw.out, hvS.out, decide_eq_true hv]; rfl)
              have hJ2 := Lib.hid (hJ.out.set k to)
              have hG2 := Lib.hid (hG.out.setCell (p := ⟨g, k, none⟩) (fun _ => rfl) (.int .u8 to.toNat))
              replace hv := Lib.hid hv
              go_wp2_with fail
              refine CC.out.mono ?_
              rintro r w' ⟨rfl, rfl⟩
              go_wp2_with fail
              go_roundw
              case rel => exact ⟨k + 1, by omega, by go_num, by rw [HF.out]; exact hJ2.out, hG2.out⟩
              case measure => simp [intOf] <;> omega
            · rw [decide_eq_false hv] at CC
              have HF : Hid (turnP S f (k + 1) = turnP S f k) := Lib.hid (turnP_same S f k (by have := hl.out; omega) (by rw [hff.out]; unfold turn1; rw [hw.out, hvS.out, decide_eq_false hv]; rfl))
              replace hv := Lib.hid hv
              go_wp2_with fail
              refine CC.out.mono ?_
              rintro r w' ⟨rfl, rfl⟩
              go_wp2_with fail
              go_roundw
              case rel => exact ⟨k + 1, by omega, by go_num, by rw [HF.out]; exact hJ.out, hG.out⟩
              case measure => simp [intOf] <;> omega
        · have hk3 : k = n + 1 := by omega
          have HF : Hid (turnP S f k = oturn S n off0 m0 true to from_) := Lib.hid (by rw [hk3, show n + 1 = S.length from hl.out.symm, turnP_all, hff.out, oturn, hn.out])
          rw [HF.out] at hJ
          go_wp2_with fail
          go_end0
          exact ⟨rfl, hJ, hG⟩
    · by_cases h1a : off < 0
      · have h1b : m ≤ 0 := by omega
        have d1 : decide (off < 0) = true := decide_eq_true h1a
        have d2 : decide (0 < m) = false := decide_eq_false (by omega)
        clear h1
        go_enter Try.func29, Try.ntmps29
        go_wp2_with fail
        go_loopw [36] (fun i wr => ∃ k : Nat, k ≤ n + 1 ∧ i = .int .i64 k ∧ IsOut wr p g n AD cD D (turnP S f k) ∧ Fr (· = g) w wr) (fun i _ => n + 1 - (intOf i).toNat)
        case atStart => exact ⟨0, by omega, rfl, by rw [turnP_zero]; exact h.out, Fr.refl _ _⟩
        case round =>
          clear c0 c1
          obtain ⟨k, hk, rfl, hJ, hG⟩ := hrel
          have c0 := wrote_cell hJ.cell 0 _ rfl
          have c1 := wrote_cell hJ.cell 1 _ rfl
          by_cases hkn : k < n + 1
          · have q1 := hJ.row.frozenAt k
            obtain ⟨b1, o1, e1, g1⟩ := hJ.rdS.at_ (k := k) (by have := hl.out; simp; omega)
            injection e1 with e1
            injection e1 with e1 e2
            subst e1 e2
            simp only [bv, List.getElem_map, Nat.zero_add] at g1
            rw [turnP_get S f k (by have := hl.out; omega)] at g1
            obtain ⟨v, hv⟩ : ∃ v, S[k]'(by have := hl.out; omega) = v := ⟨_, rfl⟩
            rw [hv] at g1
            have hvS := Lib.hid hv
            clear hv
            replace hJ := Lib.hid hJ
            replace hG := Lib.hid hG
            by_cases hk2 : k < n
            · by_cases hm : 0 < m
              · exact absurd hm (by omega)
              · skip
                have HF : Hid (turnP S f (k + 1) = turnP S f k) := Lib.hid (turnP_same S f k (by have := hl.out; omega) (by rw [hff.out]; unfold turn1; rw [show within n off m true k = false from by unfold within; simp <;> omega]; rfl))
                go_wp2_with fail
                all_goals
                  go_roundw
                  case rel => exact ⟨k + 1, by omega, by go_num, by rw [HF.out]; exact hJ.out, hG.out⟩
                  case measure => simp [intOf] <;> omega
            · have hkeq : k = n := by omega
              subst hkeq
              have hee : ((k : Int) == k) = true := beq_self_eq_true _
              have hw : Hid (within k off m true k = true) := Lib.hid (by unfold within; simp <;> omega)
              have CC := Lib.hid (contb_any from_ v Af cf wr (hf.out.fr hG.out (fun _ a ha => hfg.out a ha)) (by omega))
              by_cases hv : v ∈ from_
              · rw [decide_eq_true hv] at CC
                have HF : Hid (turnP S f (k + 1) = (turnP S f k).set k to) := Lib.hid (by rw [turnP_succ S f k (by have := hl.out; omega), hff.out]; unfold turn1; rw [hw.out, hvS.out, decide_eq_true hv]; rfl)
                have hJ2 := Lib.hid (hJ.out.set k to)
                have hG2 := Lib.hid (hG.out.setCell (p := ⟨g, k, none⟩) (fun _ => rfl) (.int .u8 to.toNat))
                replace hv := Lib.hid hv
                go_wp2_with fail
                refine CC.out.mono ?_
                rintro r w' ⟨rfl, rfl⟩
                go_wp2_with fail
                go_roundw
                case rel => exact ⟨k + 1, by omega, by go_num, by rw [HF.out]; exact hJ2.out, hG2.out⟩
                case measure => simp [intOf] <;> omega
              · rw [decide_eq_false hv] at CC
                have HF : Hid (turnP S f (k + 1) = turnP S f k) := Lib.hid (turnP_same S f k (by have := hl.out; omega) (by rw [hff.out]; unfold turn1; rw [hw.out, hvS.out, decide_eq_false hv]; rfl))
                replace hv := Lib.hid hv
                go_wp2_with fail
                refine CC.out.mono ?_
                rintro r w' ⟨rfl, rfl⟩
                go_wp2_with fail
                go_roundw
                case rel => exact ⟨k + 1, by omega, by go_num, by rw [HF.out]; exact hJ.out, hG.out⟩
                case measure => simp [intOf] <;> omega
          · have hk3 : k = n + 1 := by omega
            have HF : Hid (turnP S f k = oturn S n off m true to from_) := Lib.hid (by rw [hk3, show n + 1 = S.length from hl.out.symm, turnP_all, hff.out, oturn, hn.out])
            rw [HF.out] at hJ
            go_wp2_with fail
            go_end0
            exact ⟨rfl, hJ, hG⟩
      · clear h1
        go_enter Try.func29, Try.ntmps29
        go_wp2_with fail
        go_loopw [36] (fun i wr => ∃ k : Nat, k ≤ n + 1 ∧ i = .int .i64 k ∧ IsOut wr p g n AD cD D (turnP S f k) ∧ Fr (· = g) w wr) (fun i _ => n + 1 - (intOf i).toNat)
        case atStart => exact ⟨0, by omega, rfl, by rw [turnP_zero]; exact h.out, Fr.refl _ _⟩
        case round =>
          clear c0 c1
          obtain ⟨k, hk, rfl, hJ, hG⟩ := hrel
          have c0 := wrote_cell hJ.cell 0 _ rfl
          have c1 := wrote_cell hJ.cell 1 _ rfl
          by_cases hkn : k < n + 1
          · have q1 := hJ.row.frozenAt k
            obtain ⟨b1, o1, e1, g1⟩ := hJ.rdS.at_ (k := k) (by have := hl.out; simp; omega)
            injection e1 with e1
            injection e1 with e1 e2
            subst e1 e2
            simp only [bv, List.getElem_map, Nat.zero_add] at g1
            rw [turnP_get S f k (by have := hl.out; omega)] at g1
            obtain ⟨v, hv⟩ : ∃ v, S[k]'(by have := hl.out; omega) = v := ⟨_, rfl⟩
            rw [hv] at g1
            have hvS := Lib.hid hv
            clear hv
            replace hJ := Lib.hid hJ
            replace hG := Lib.hid hG
            by_cases hk2 : k < n
            · by_cases hm : 0 < m
              · have ho := hpos.out hm
                by_cases hok : off ≤ k
                · by_cases hd : (k : Int) - off < m
                  · skip
                    have hw : Hid (within n off m true k = true) := Lib.hid (by unfold within; simp <;> omega)
                    have CC := Lib.hid (contb_any from_ v Af cf wr (hf.out.fr hG.out (fun _ a ha => hfg.out a ha)) (by omega))
                    by_cases hv : v ∈ from_
                    · rw [decide_eq_true hv] at CC
                      have HF : Hid (turnP S f (k + 1) = (turnP S f k).set k to) := Lib.hid (by rw [turnP_succ S f k (by have := hl.out; omega), hff.out]; unfold turn1; rw [hw.out, hvS.out, decide_eq_true hv]; rfl)
                      have hJ2 := Lib.hid (hJ.out.set k to)
                      have hG2 := Lib.hid (hG.out.setCell (p := ⟨g, k, none⟩) (fun _ => rfl) (.int .u8 to.toNat))
                      replace hv := Lib.hid hv
                      go_wp2_with fail
                      refine CC.out.mono ?_
                      rintro r w' ⟨rfl, rfl⟩
                      go_wp2_with fail
                      go_roundw
                      case rel => exact ⟨k + 1, by omega, by go_num, by rw [HF.out]; exact hJ2.out, hG2.out⟩
                      case measure => simp [intOf] <;> omega
                    · rw [decide_eq_false hv] at CC
                      have HF : Hid (turnP S f (k + 1) = turnP S f k) := Lib.hid (turnP_same S f k (by have := hl.out; omega) (by rw [hff.out]; unfold turn1; rw [hw.out, hvS.out, decide_eq_false hv]; rfl))
                      replace hv := Lib.hid hv
                      go_wp2_with fail
                      refine CC.out.mono ?_
                      rintro r w' ⟨rfl, rfl⟩
                      go_wp2_with fail
                      go_roundw
                      case rel => exact ⟨k + 1, by omega, by go_num, by rw [HF.out]; exact hJ.out, hG.out⟩
                      case measure => simp [intOf] <;> omega
                  · skip
                    have HF : Hid (turnP S f (k + 1) = turnP S f k) := Lib.hid (turnP_same S f k (by have := hl.out; omega) (by rw [hff.out]; unfold turn1; rw [show within n off m true k = false from by unfold within; simp <;> omega]; rfl))
                    go_wp2_with fail
                    all_goals
                      go_roundw
                      case rel => exact ⟨k + 1, by omega, by go_num, by rw [HF.out]; exact hJ.out, hG.out⟩
                      case measure => simp [intOf] <;> omega
                · skip
                  have HF : Hid (turnP S f (k + 1) = turnP S f k) := Lib.hid (turnP_same S f k (by have := hl.out; omega) (by rw [hff.out]; unfold turn1; rw [show within n off m true k = false from by unfold within; simp <;> omega]; rfl))
                  go_wp2_with fail
                  all_goals
                    go_roundw
                    case rel => exact ⟨k + 1, by omega, by go_num, by rw [HF.out]; exact hJ.out, hG.out⟩
                    case measure => simp [intOf] <;> omega
              · skip
                have HF : Hid (turnP S f (k + 1) = turnP S f k) := Lib.hid (turnP_same S f k (by have := hl.out; omega) (by rw [hff.out]; unfold turn1; rw [show within n off m true k = false from by unfold within; simp <;> omega]; rfl))
                go_wp2_with fail
                all_goals
                  go_roundw
                  case rel => exact ⟨k + 1, by omega, by go_num, by rw [HF.out]; exact hJ.out, hG.out⟩
                  case measure => simp [intOf] <;> omega
            · have hkeq : k = n := by omega
              subst hkeq
              have hee : ((k : Int) == k) = true := beq_self_eq_true _
              have hw : Hid (within k off m true k = true) := Lib.hid (by unfold within; simp <;> omega)
              have CC := Lib.hid (contb_any from_ v Af cf wr (hf.out.fr hG.out (fun _ a ha => hfg.out a ha)) (by omega))
              by_cases hv : v ∈ from_
              · rw [decide_eq_true hv] at CC
                have HF : Hid (turnP S f (k + 1) = (turnP S f k).set k to) := Lib.hid (by rw [turnP_succ S f k (by have := hl.out; omega), hff.out]; unfold turn1; rw [hw.out, hvS.out, decide_eq_true hv]; rfl)
                have hJ2 := Lib.hid (hJ.out.set k to)
                have hG2 := Lib.hid (hG.out.setCell (p := ⟨g, k, none⟩) (fun _ => rfl) (.int .u8 to.toNat))
                replace hv := Lib.hid hv
                go_wp2_with fail
                refine CC.out.mono ?_
                rintro r w' ⟨rfl, rfl⟩
                go_wp2_with fail
                go_roundw
                case rel => exact ⟨k + 1, by omega, by go_num, by rw [HF.out]; exact hJ2.out, hG2.out⟩
                case measure => simp [intOf] <;> omega
              · rw [decide_eq_false hv] at CC
                have HF : Hid (turnP S f (k + 1) = turnP S f k) := Lib.hid (turnP_same S f k (by have := hl.out; omega) (by rw [hff.out]; unfold turn1; rw [hw.out, hvS.out, decide_eq_false hv]; rfl))
                replace hv := Lib.hid hv
                go_wp2_with fail
                refine CC.out.mono ?_
                rintro r w' ⟨rfl, rfl⟩
                go_wp2_with fail
                go_roundw
                case rel => exact ⟨k + 1, by omega, by go_num, by rw [HF.out]; exact hJ.out, hG.out⟩
                case measure => simp [intOf] <;> omega
          · have hk3 : k = n + 1 := by omega
            have HF : Hid (turnP S f k = oturn S n off m true to from_) := Lib.hid (by rw [hk3, show n + 1 = S.length from hl.out.symm, turnP_all, hff.out, oturn, hn.out])
            rw [HF.out] at hJ
            go_wp2_with fail
            go_end0
            exact ⟨rfl, hJ, hG⟩
  | false =>
    rcases hcase with ⟨h1, h2, rfl, rfl⟩ | ⟨h1, rfl, rfl⟩
    · skip
      go_enter Try.func29, Try.ntmps29
      go_wp2_with fail
      go_loopw [36] (fun i wr => ∃ k : Nat, k ≤ n + 1 ∧ i = .int .i64 k ∧ IsOut wr p g n AD cD D (turnP S f k) ∧ Fr (· = g) w wr) (fun i _ => n + 1 - (intOf i).toNat)
      case atStart => exact ⟨0, by omega, rfl, by rw [turnP_zero]; exact h.out, Fr.refl _ _⟩
      case round =>
        clear c0 c1
        obtain ⟨k, hk, rfl, hJ, hG⟩ := hrel
        have c0 := wrote_cell hJ.cell 0 _ rfl
        have c1 := wrote_cell hJ.cell 1 _ rfl
        by_cases hkn : k < n + 1
        · have q1 := hJ.row.frozenAt k
          obtain ⟨b1, o1, e1, g1⟩ := hJ.rdS.at_ (k := k) (by have := hl.out; simp; omega)
          injection e1 with e1
          injection e1 with e1 e2
          subst e1 e2
          simp only [bv, List.getElem_map, Nat.zero_add] at g1
          rw [turnP_get S f k (by have := hl.out; omega)] at g1
          obtain ⟨v, hv⟩ : ∃ v, S[k]'(by have := hl.out; omega) = v := ⟨_, rfl⟩
          rw [hv] at g1
          have hvS := Lib.hid hv
          clear hv
          replace hJ := Lib.hid hJ
          replace hG := Lib.hid hG
          by_cases hk2 : k < n
          · by_cases hm : 0 < m0 + off0
            · skip
              by_cases hok : (0 : Int) ≤ k
              · by_cases hd : (k : Int) < m0 + off0
                · skip
                  have hw : Hid (within n 0 (m0 + off0) false k = true) := Lib.hid (by unfold within; simp <;> omega)
                  have CC := Lib.hid (contb_any from_ v Af cf wr (hf.out.fr hG.out (fun _ a ha => hfg.out a ha)) (by omega))
                  by_cases hv : v ∈ from_
                  · rw [decide_eq_true hv] at CC
                    have HF : Hid (turnP S f (k + 1) = (turnP S f k).set k to) := Lib.hid (by rw [turnP_succ S f k (by have := hl.out; omega), hff.out]; unfold turn1; rw [hw.out, hvS.out, decide_eq_true hv]; rfl)
                    have hJ2 := Lib.hid (hJ.out.set k to)
                    have hG2 := Lib.hid (hG.out.setCell (p := ⟨g, k, none⟩) (fun _ => rfl) (.int .u8 to.toNat))
                    replace hv := Lib.hid hv
                    go_wp2_with fail
                    refine CC.out.mono ?_
                    rintro r w' ⟨rfl, rfl⟩
                    go_wp2_with fail
                    go_roundw
                    case rel => exact ⟨k + 1, by omega, by go_num, by rw [HF.out]; exact hJ2.out, hG2.out⟩
                    case measure => simp [intOf] <;> omega
                  · rw [decide_eq_false hv] at CC
                    have HF : Hid (turnP S f (k + 1) = turnP S f k) := Lib.hid (turnP_same S f k (by have := hl.out; omega) (by rw [hff.out]; unfold turn1; rw [hw.out, hvS.out, decide_eq_false hv]; rfl))
                    replace hv := Lib.hid hv
                    go_wp2_with fail
                    refine CC.out.mono ?_
                    rintro r w' ⟨rfl, rfl⟩
                    go_wp2_with fail
                    go_roundw
                    case rel => exact ⟨k + 1, by omega, by go_num, by rw [HF.out]; exact hJ.out, hG.out⟩
                    case measure => simp [intOf] <;> omega
                · skip
                  have HF : Hid (turnP S f (k + 1) = turnP S f k) := Lib.hid (turnP_same S f k (by have := hl.out; omega) (by rw [hff.out]; unfold turn1; rw [show within n 0 (m0 + off0) false k = false from by unfold within; simp <;> omega]; rfl))
                  go_wp2_with fail
                  all_goals
                    go_roundw
                    case rel => exact ⟨k + 1, by omega, by go_num, by rw [HF.out]; exact hJ.out, hG.out⟩
                    case measure => simp [intOf] <;> omega
              · skip
                have HF : Hid (turnP S f (k + 1) = turnP S f k) := Lib.hid (turnP_same S f k (by have := hl.out; omega) (by rw [hff.out]; unfold turn1; rw [show within n 0 (m0 + off0) false k = false from by unfold within; simp <;> omega]; rfl))
                go_wp2_with fail
                all_goals
                  go_roundw
                  case rel => exact ⟨k + 1, by omega, by go_num, by rw [HF.out]; exact hJ.out, hG.out⟩
                  case measure => simp [intOf] <;> omega
            · skip
              have HF : Hid (turnP S f (k + 1) = turnP S f k) := Lib.hid (turnP_same S f k (by have := hl.out; omega) (by rw [hff.out]; unfold turn1; rw [show within n 0 (m0 + off0) false k = false from by unfold within; simp <;> omega]; rfl))
              go_wp2_with fail
              all_goals
                go_roundw
                case rel => exact ⟨k + 1, by omega, by go_num, by rw [HF.out]; exact hJ.out, hG.out⟩
                case measure => simp [intOf] <;> omega
          · have hkeq : k = n := by omega
            subst hkeq
            have hee : ((k : Int) == k) = true := beq_self_eq_true _
            have HF : Hid (turnP S f (k + 1) = turnP S f k) := Lib.hid (turnP_same S f k (by have := hl.out; omega) (by rw [hff.out]; unfold turn1; rw [show within k 0 (m0 + off0) false k = false from by unfold within; simp <;> omega]; rfl))
            go_wp2_with fail
            all_goals
              go_roundw
              case rel => exact ⟨k + 1, by omega, by go_num, by rw [HF.out]; exact hJ.out, hG.out⟩
              case measure => simp [intOf] <;> omega
        · have hk3 : k = n + 1 := by omega
          have HF : Hid (turnP S f k = oturn S n off0 m0 false to from_) := Lib.hid (by rw [hk3, show n + 1 = S.length from hl.out.symm, turnP_all, hff.out, oturn, hn.out])
          rw [HF.out] at hJ
          go_wp2_with fail
          go_end0
          exact ⟨rfl, hJ, hG⟩
    · by_cases h1a : off < 0
      · have h1b : m ≤ 0 := by omega
        have d1 : decide (off < 0) = true := decide_eq_true h1a
        have d2 : decide (0 < m) = false := decide_eq_false (by omega)
        clear h1
        go_enter Try.func29, Try.ntmps29
        go_wp2_with fail
        go_loopw [36] (fun i wr => ∃ k : Nat, k ≤ n + 1 ∧ i = .int .i64 k ∧ IsOut wr p g n AD cD D (turnP S f k) ∧ Fr (· = g) w wr) (fun i _ => n + 1 - (intOf i).toNat)
        case atStart => exact ⟨0, by omega, rfl, by rw [turnP_zero]; exact h.out, Fr.refl _ _⟩
        case round =>
          clear c0 c1
          obtain ⟨k, hk, rfl, hJ, hG⟩ := hrel
          have c0 := wrote_cell hJ.cell 0 _ rfl
          have c1 := wrote_cell hJ.cell 1 _ rfl
          by_cases hkn : k < n + 1
          · have q1 := hJ.row.frozenAt k
            obtain ⟨b1, o1, e1, g1⟩ := hJ.rdS.at_ (k := k) (by have := hl.out; simp; omega)
            injection e1 with e1
            injection e1 with e1 e2
            subst e1 e2
            simp only [bv, List.getElem_map, Nat.zero_add] at g1
            rw [turnP_get S f k (by have := hl.out; omega)] at g1
            obtain ⟨v, hv⟩ : ∃ v, S[k]'(by have := hl.out; omega) = v := ⟨_, rfl⟩
            rw [hv] at g1
            have hvS := Lib.hid hv
            clear hv
            replace hJ := Lib.hid hJ
            replace hG := Lib.hid hG
            by_cases hk2 : k < n
            · by_cases hm : 0 < m
              · exact absurd hm (by omega)
              · skip
                have HF : Hid (turnP S f (k + 1) = turnP S f k) := Lib.hid (turnP_same S f k (by have := hl.out; omega) (by rw [hff.out]; unfold turn1; rw [show within n off m false k = false from by unfold within; simp <;> omega]; rfl))
                go_wp2_with fail
                all_goals
                  go_roundw
                  case rel => exact ⟨k + 1, by omega, by go_num, by rw [HF.out]; exact hJ.out, hG.out⟩
                  case measure => simp [intOf] <;> omega
            · have hkeq : k = n := by omega
              subst hkeq
              have hee : ((k : Int) == k) = true := beq_self_eq_true _
              have HF : Hid (turnP S f (k + 1) = turnP S f k) := Lib.hid (turnP_same S f k (by have := hl.out; omega) (by rw [hff.out]; unfold turn1; rw [show within k off m false k = false from by unfold within; simp <;> omega]; rfl))
              go_wp2_with fail
              all_goals
                go_roundw
                case rel => exact ⟨k + 1, by omega, by go_num, by rw [HF.out]; exact hJ.out, hG.out⟩
                case measure => simp [intOf] <;> omega
          · have hk3 : k = n + 1 := by omega
            have HF : Hid (turnP S f k = oturn S n off m false to from_) := Lib.hid (by rw [hk3, show n + 1 = S.length from hl.out.symm, turnP_all, hff.out, oturn, hn.out])
            rw [HF.out] at hJ
            go_wp2_with fail
            go_end0
            exact ⟨rfl, hJ, hG⟩
      · clear h1
        go_enter Try.func29, Try.ntmps29
        go_wp2_with fail
        go_loopw [36] (fun i wr => ∃ k : Nat, k ≤ n + 1 ∧ i = .int .i64 k ∧ IsOut wr p g n AD cD D (turnP S f k) ∧ Fr (· = g) w wr) (fun i _ => n + 1 - (intOf i).toNat)
        case atStart => exact ⟨0, by omega, rfl, by rw [turnP_zero]; exact h.out, Fr.refl _ _⟩
        case round =>
          clear c0 c1
          obtain ⟨k, hk, rfl, hJ, hG⟩ := hrel
          have c0 := wrote_cell hJ.cell 0 _ rfl
          have c1 := wrote_cell hJ.cell 1 _ rfl
          by_cases hkn : k < n + 1
          · have q1 := hJ.row.frozenAt k
            obtain ⟨b1, o1, e1, g1⟩ := hJ.rdS.at_ (k := k) (by have := hl.out; simp; omega)
            injection e1 with e1
            injection e1 with e1 e2
            subst e1 e2
            simp only [bv, List.getElem_map, Nat.zero_add] at g1
            rw [turnP_get S f k (by have := hl.out; omega)] at g1
            obtain ⟨v, hv⟩ : ∃ v, S[k]'(by have := hl.out; omega) = v := ⟨_, rfl⟩
            rw [hv] at g1
            have hvS := Lib.hid hv
            clear hv
            replace hJ := Lib.hid hJ
            replace hG := Lib.hid hG
            by_cases hk2 : k < n
            · by_cases hm : 0 < m
              · have ho := hpos.out hm
                by_cases hok : off ≤ k
                · by_cases hd : (k : Int) - off < m
                  · skip
                    have hw : Hid (within n off m false k = true) := Lib.hid (by unfold within; simp <;> omega)
                    have CC := Lib.hid (contb_any from_ v Af cf wr (hf.out.fr hG.out (fun _ a ha => hfg.out a ha)) (by omega))
                    by_cases hv : v ∈ from_
                    · rw [decide_eq_true hv] at CC
                      have HF : Hid (turnP S f (k + 1) = (turnP S f k).set k to) := Lib.hid (by rw [turnP_succ S f k (by have := hl.out; omega), hff.out]; unfold turn1; rw [hw.out, hvS.out, decide_eq_true hv]; rfl)
                      have hJ2 := Lib.hid (hJ.out.set k to)
                      have hG2 := Lib.hid (hG.out.setCell (p := ⟨g, k, none⟩) (fun _ => rfl) (.int .u8 to.toNat))
                      replace hv := Lib.hid hv
                      go_wp2_with fail
                      refine CC.out.mono ?_
                      rintro r w' ⟨rfl, rfl⟩
                      go_wp2_with fail
                      go_roundw
                      case rel => exact ⟨k + 1, by omega, by go_num, by rw [HF.out]; exact hJ2.out, hG2.out⟩
                      case measure => simp [intOf] <;> omega
                    · rw [decide_eq_false hv] at CC
                      have HF : Hid (turnP S f (k + 1) = turnP S f k) := Lib.hid (turnP_same S f k (by have := hl.out; omega) (by rw [hff.out]; unfold turn1; rw [hw.out, hvS.out, decide_eq_false hv]; rfl))
                      replace hv := Lib.hid hv
                      go_wp2_with fail
                      refine CC.out.mono ?_
                      rintro r w' ⟨rfl, rfl⟩
                      go_wp2_with fail
                      go_roundw
                      case rel => exact ⟨k + 1, by omega, by go_num, by rw [HF.out]; exact hJ.out, hG.out⟩
                      case measure => simp [intOf] <;> omega
                  · skip
                    have HF : Hid (turnP S f (k + 1) = turnP S f k) := Lib.hid (turnP_same S f k (by have := hl.out; omega) (by rw [hff.out]; unfold turn1; rw [show within n off m false k = false from by unfold within; simp <;> omega]; rfl))
                    go_wp2_with fail
                    all_goals
                      go_roundw
                      case rel => exact ⟨k + 1, by omega, by go_num, by rw [HF.out]; exact hJ.out, hG.out⟩
                      case measure => simp [intOf] <;> omega
                · skip
                  have HF : Hid (turnP S f (k + 1) = turnP S f k) := Lib.hid (turnP_same S f k (by have := hl.out; omega) (by rw [hff.out]; unfold turn1; rw [show within n off m false k = false from by unfold within; simp <;> omega]; rfl))
                  go_wp2_with fail
                  all_goals
                    go_roundw
                    case rel => exact ⟨k + 1, by omega, by go_num, by rw [HF.out]; exact hJ.out, hG.out⟩
                    case measure => simp [intOf] <;> omega
              · skip
                have HF : Hid (turnP S f (k + 1) = turnP S f k) := Lib.hid (turnP_same S f k (by have := hl.out; omega) (by rw [hff.out]; unfold turn1; rw [show within n off m false k = false from by unfold within; simp <;> omega]; rfl))
                go_wp2_with fail
                all_goals
                  go_roundw
                  case rel => exact ⟨k + 1, by omega, by go_num, by rw [HF.out]; exact hJ.out, hG.out⟩
                  case measure => simp [intOf] <;> omega
            · have hkeq : k = n := by omega
              subst hkeq
              have hee : ((k : Int) == k) = true := beq_self_eq_true _
              have HF : Hid (turnP S f (k + 1) = turnP S f k) := Lib.hid (turnP_same S f k (by have := hl.out; omega) (by rw [hff.out]; unfold turn1; rw [show within k off m false k = false from by unfold within; simp <;> omega]; rfl))
              go_wp2_with fail
              all_goals
                go_roundw
                case rel => exact ⟨k + 1, by omega, by go_num, by rw [HF.out]; exact hJ.out, hG.out⟩
                case measure => simp [intOf] <;> omega
          · have hk3 : k = n + 1 := by omega
            have HF : Hid (turnP S f k = oturn S n off m false to from_) := Lib.hid (by rw [hk3, show n + 1 = S.length from hl.out.symm, turnP_all, hff.out, oturn, hn.out])
            rw [HF.out] at hJ
            go_wp2_with fail
            go_end0
            exact ⟨rfl, hJ, hG⟩

theorem turn_any (h : IsOut w p g n AD cD D S) (off m : Int) (e : Bool) (to : UInt8) (from_ : List UInt8) (Af : Option Addr) (cf : Nat) (hf : Rd w Af (bv from_)) (hfg : ∀ a, Af = some a → a.block ≠ g) (hfl : from_.length ≤ 10)
    (ho0 : -9223372036854775808 ≤ off) (ho1 : off ≤ 9223372036854775807) (hm0 : -9223372036854775808 ≤ m) (hm1 : m ≤ 9223372036854775807) :
    Calls Try.prog 29 #[.pointer (some ⟨p, 0, none⟩), .int .i64 off, .int .i64 m, .bool e, .int .u8 to.toNat, .slice Af from_.length cf] w fun r w' => r = .returned (.tuple #[]) ∧ IsOut w' p g n AD cD D (oturn S n off m e to from_) ∧ Fr (· = g) w w' := by
  by_cases hc : off < 0 ∧ 0 < m
  · exact turn_core h off m 0 (m + off) e to from_ Af cf hf hfg hfl ho0 ho1 hm0 hm1 (Lib.hid (by rw [onorm, if_pos hc])) (fun _ => by omega) (.inl ⟨hc.1, hc.2, rfl, rfl⟩)
  · exact turn_core h off m off m e to from_ Af cf hf hfg hfl ho0 ho1 hm0 hm1 (Lib.hid (by rw [onorm, if_neg hc])) (fun h => by omega) (.inr ⟨hc, rfl, rfl⟩)
set_option maxHeartbeats 1000000 in
theorem there_any (h : IsOut w p g n AD cD D S) (off m : Int) (e : Bool) (ho0 : -9223372036854775808 ≤ off) (ho1 : off ≤ 9223372036854775807) (hm0 : -9223372036854775808 ≤ m) (hm1 : m ≤ 9223372036854775807) :
    Calls Try.prog 16 #[.pointer (some ⟨p, 0, none⟩), .int .i64 off, .int .i64 m, .bool e] w fun r w' => r = .returned (.tuple #[]) ∧ IsOut w' p g n AD cD D (oturn S n off m e 3 [1, 2]) ∧ Fr (· = g) w w' := by
  have hlt := h.lt
  have hA := fun a (ha : AD = some a) => h.rd
  have H := Lib.hid h
  clear h
  go_enter Try.func16, Try.ntmps16
  go_wp2_with fail
  refine (turn_any (H.out.fr ((Fr.refl NoS w).alloc _) (fun x => x) (fun x => x) (fun _ _ x => x)) off m e 3 [1, 2] (some ⟨w.heap.size, 0, none⟩) 2 (Rd.fresh w (bv [1, 2]) _) (fun a ha => by injection ha with ha; subst ha; simp; omega) (by decide) ho0 ho1 hm0 hm1).mono ?_
  rintro r w' ⟨rfl, h2, f2⟩
  go_wp2_with fail
  go_end0
  exact ⟨rfl, h2, ((Fr.refl (· = g) w).alloc _).trans f2⟩
set_option maxHeartbeats 1000000 in
theorem lost_any (h : IsOut w p g n AD cD D S) (off m : Int) (e : Bool) (ho0 : -9223372036854775808 ≤ off) (ho1 : off ≤ 9223372036854775807) (hm0 : -9223372036854775808 ≤ m) (hm1 : m ≤ 9223372036854775807) :
    Calls Try.prog 18 #[.pointer (some ⟨p, 0, none⟩), .int .i64 off, .int .i64 m, .bool e] w fun r w' => r = .returned (.tuple #[]) ∧ IsOut w' p g n AD cD D (oturn S n off m e 2 [1]) ∧ Fr (· = g) w w' := by
  have hlt := h.lt
  have H := Lib.hid h
  clear h
  go_enter Try.func18, Try.ntmps18
  go_wp2_with fail
  refine (turn_any (H.out.fr ((Fr.refl NoS w).alloc _) (fun x => x) (fun x => x) (fun _ _ x => x)) off m e 2 [1] (some ⟨w.heap.size, 0, none⟩) 1 (Rd.fresh w (bv [1]) _) (fun a ha => by injection ha with ha; subst ha; simp; omega) (by decide) ho0 ho1 hm0 hm1).mono ?_
  rintro r w' ⟨rfl, h2, f2⟩
  go_wp2_with fail
  go_end0
  exact ⟨rfl, h2, ((Fr.refl (· = g) w).alloc _).trans f2⟩
end
end Go.Proofs.Ytljpboikjhckiaa
