/- The document's own Out: turn, There, Lost. -/
import Derived.Test.YtljpboikjhckiaaOrA
import Derived.Test.YtljpboikjhckiaaOutD
import Derived.Deep.DeepCutAuto
namespace Go.Proofs.Ytljpboikjhckiaa
open Go.RowKit

/-- Which places are told, as the document writes it. -/
def rin (n : Nat) (off m : Int) (e : Bool) (k : Nat) : Bool := (decide (k < n) && (decide (off ≤ k) && (decide (0 < m) && decide ((k : Int) - off < m)))) || (decide (k = n) && e)
theorem rin_eq (n : Nat) (off m : Int) (e : Bool) (k : Nat) : rin n off m e k = within n (onorm off m).1 (onorm off m).2 e k := by
  unfold rin within onorm
  split
  · rename_i h
    congr 1
    rw [Bool.eq_iff_iff]
    simp only [Bool.and_eq_true, decide_eq_true_eq]
    omega
  · congr 1
    rw [Bool.eq_iff_iff]
    simp only [Bool.and_eq_true, decide_eq_true_eq]
    omega
section
variable {w w' : World} {p g n : Nat} {AD : Option Addr} {cD : Nat} {D S : List UInt8}
theorem u8i {v x : UInt8} {vi : Int} (hvi : (v.toNat : Int) = vi) (h : v ≠ x) : (vi == (x.toNat : Int)) = false := by
  rw [beq_eq_false_iff_ne, ← hvi]
  intro e
  exact h (UInt8.toNat_inj.1 (by exact_mod_cast e))

set_option maxRecDepth 100000 in
set_option maxHeartbeats 8000000 in
theorem rturn_any (h : IsRo w p g n AD cD D S) (off m : Int) (e lost : Bool) (tx : UInt8) (from_ : List UInt8)
    (ho0 : -9223372036854775808 ≤ off) (ho1 : off ≤ 9223372036854775807) (hm0 : -9223372036854775808 ≤ m) (hm1 : m ≤ 9223372036854775807)
    (hc : (lost = true ∧ tx = 2 ∧ from_ = [1]) ∨ (lost = false ∧ tx = 3 ∧ from_ = [1, 2])) :
    Calls Try.prog 30 #[.pointer (some ⟨p, 0, none⟩), .int .i64 off, .int .i64 m, .bool e, .bool lost] w fun r w' => r = .returned (.tuple #[]) ∧ IsRo w' p g n AD cD D (oturn S n off m e tx from_) ∧ Fr (· = g) w w' := by
  have c0 := wrote_cell h.cell 0 _ rfl
  have c1 := wrote_cell h.cell 1 _ rfl
  have hs := h.small
  have hl := h.lS
  obtain ⟨f, hff⟩ : ∃ f, f = turn1 n (onorm off m).1 (onorm off m).2 e tx from_ := ⟨_, rfl⟩
  have HT : Hid (turnP S f (n + 1) = oturn S n off m e tx from_) := Lib.hid (by rw [show n + 1 = S.length from hl.symm, turnP_all, hff, oturn])
  have HW : Hid (∀ k x, f k x = if rin n off m e k && decide (x ∈ from_) then tx else x) := Lib.hid (fun k x => by rw [hff, turn1, rin_eq])
  clear hff
  replace hl := Lib.hid hl
  replace h := Lib.hid h
  replace hc := Lib.hid hc
  go_enter Try.func30, Try.ntmps30
  go_wp2_with fail
  go_loopw [10] (fun i wr => ∃ k : Nat, k ≤ n + 1 ∧ i = .int .i64 k ∧ IsRo wr p g n AD cD D (turnP S f k) ∧ Fr (· = g) w wr) (fun i _ => n + 1 - (intOf i).toNat)
  case atStart => exact ⟨0, by omega, rfl, by rw [turnP_zero]; exact h.out, Fr.refl _ _⟩
  case round =>
    clear c0 c1
    obtain ⟨k, hk, rfl, hJ, hG⟩ := hrel
    have c0 := wrote_cell hJ.cell 0 _ rfl
    have c1 := wrote_cell hJ.cell 1 _ rfl
    by_cases hkn : k ≤ n
    · have q1 := hJ.row.frozenAt k
      have hkl : k < S.length := by have := hl.out; omega
      have g1 := hJ.at_ k (by simpa using hkl)
      rw [turnP_get S f k hkl] at g1
      obtain ⟨v, hv⟩ : ∃ v, S[k] = v := ⟨_, rfl⟩
      rw [hv] at g1
      have HS := turnP_succ S f k hkl
      have HU := turnP_same S f k hkl
      rw [hv, HW.out] at HS HU
      have HJ2 := Lib.hid (hJ.set k tx)
      replace HS := Lib.hid HS
      replace HU := Lib.hid HU
      obtain ⟨vi, hvi⟩ : ∃ vi : Int, (v.toNat : Int) = vi := ⟨_, rfl⟩
      rw [hvi] at g1
      replace hv := Lib.hid hv
      replace hvi := Lib.hid hvi
      replace hJ := Lib.hid hJ
      replace hG := Lib.hid hG
      obtain ⟨inb, hin⟩ : ∃ inb, rin n off m e k = inb := ⟨_, rfl⟩
      replace hin := Lib.hid hin
      go_upto_region 3 with fail
      go_cut [11] from 21 to 58 (fun v wx => v = .bool inb ∧ wx = wr)
      case first =>
        by_cases hk2 : k < n
        · have hkI : (k : Int) < (n : Int) := by omega
          have hke : ((k : Int) == (n : Int)) = false := by rw [beq_eq_false_iff_ne]; omega
          have hR : rin n off m e k = (decide (off ≤ k) && (decide (0 < m) && decide ((k : Int) - off < m))) := by unfold rin; simp [hk2, show k ≠ n by omega]
          rw [hin.out] at hR
          clear hin
          replace hR := Lib.hid hR
          by_cases ho : off ≤ (k : Int)
          · by_cases hm : 0 < m
            · have hwk : IntKind.u64.wrap (k : Int) = (k : Int) := by rw [IntKind.wrap_u64]; omega
              have hwm : IntKind.u64.wrap m = m := by rw [IntKind.wrap_u64]; omega
              obtain ⟨wo, hwo⟩ : ∃ wo, IntKind.u64.wrap off = wo := ⟨_, rfl⟩
              have hwd : IntKind.u64.wrap ((k : Int) - wo) = (k : Int) - off := by rw [← hwo, IntKind.wrap_u64, IntKind.wrap_u64]; omega
              obtain ⟨dd, hdd⟩ : ∃ dd, (k : Int) - off = dd := ⟨_, rfl⟩
              rw [hdd] at hwd
              have hR := Lib.hid (hdd ▸ hR.out)
              by_cases hd : dd < m
              · obtain rfl : inb = true := by rw [hR.out, decide_eq_true ho, decide_eq_true hm, decide_eq_true hd]; rfl
                clear hR
                replace hdd := Lib.hid hdd
                replace hwo' := Lib.hid hwo
                go_wp2_with fail
                go_meet
                exact ⟨rfl, rfl⟩
              · obtain rfl : inb = false := by rw [hR.out, decide_eq_true ho, decide_eq_true hm, decide_eq_false hd]; rfl
                clear hR
                replace hdd := Lib.hid hdd
                replace hwo' := Lib.hid hwo
                go_wp2_with fail
                go_meet
                exact ⟨rfl, rfl⟩
            · obtain rfl : inb = false := by rw [hR.out, decide_eq_true ho, decide_eq_false hm]; rfl
              clear hR
              go_wp2_with fail
              go_meet
              exact ⟨rfl, rfl⟩
          · obtain rfl : inb = false := by rw [hR.out, decide_eq_false ho]; rfl
            clear hR
            go_wp2_with fail
            go_meet
            exact ⟨rfl, rfl⟩
        · have hke : k = n := by omega
          subst hke
          have hee : ((k : Int) == k) = true := beq_self_eq_true _
          have hR : rin k off m e k = e := by unfold rin; simp
          rw [hin.out] at hR
          clear hin
          subst hR
          go_wp2_with fail
          go_meet
          exact ⟨rfl, rfl⟩
      case rest =>
        obtain ⟨rfl, rfl⟩ := hcut
        cases inb with
        | false =>
          have HF : Hid (turnP S f (k + 1) = turnP S f k) := Lib.hid (HU.out (by rw [hin.out]; rfl))
          go_wp2_with fail
          go_roundw
          case rel => exact ⟨k + 1, by omega, by go_num, by rw [HF.out]; exact hJ.out, hG.out⟩
          case measure => simp [intOf] <;> omega
        | true =>
          have hG2 := Lib.hid (hG.out.setCell (p := ⟨g, k, none⟩) (fun _ => rfl) (.int .i64 tx.toNat))
          rcases hc.out with ⟨rfl, rfl, rfl⟩ | ⟨rfl, rfl, rfl⟩
          · by_cases h1 : v = 1
            · have e1 : (vi == 1) = true := by rw [← hvi.out, h1]; rfl
              have HF : Hid (turnP S f (k + 1) = (turnP S f k).set k 2) := Lib.hid (by rw [HS.out, hin.out, h1]; rfl)
              replace h1 := Lib.hid h1
              go_wp2_with fail
              go_roundw
              case rel => exact ⟨k + 1, by omega, by go_num, by rw [HF.out]; exact HJ2.out.1, hG2.out⟩
              case measure => simp [intOf] <;> omega
            · have e1 : (vi == 1) = false := u8i hvi.out h1
              have HF : Hid (turnP S f (k + 1) = turnP S f k) := Lib.hid (HU.out (by rw [hin.out]; simp [h1]))
              replace h1 := Lib.hid h1
              go_wp2_with fail
              go_roundw
              case rel => exact ⟨k + 1, by omega, by go_num, by rw [HF.out]; exact hJ.out, hG.out⟩
              case measure => simp [intOf] <;> omega
          · by_cases h1 : v = 1
            · have e1 : (vi == 1) = true := by rw [← hvi.out, h1]; rfl
              have HF : Hid (turnP S f (k + 1) = (turnP S f k).set k 3) := Lib.hid (by rw [HS.out, hin.out, h1]; rfl)
              replace h1 := Lib.hid h1
              go_wp2_with fail
              go_roundw
              case rel => exact ⟨k + 1, by omega, by go_num, by rw [HF.out]; exact HJ2.out.1, hG2.out⟩
              case measure => simp [intOf] <;> omega
            · have e1 : (vi == 1) = false := u8i hvi.out h1
              by_cases h2 : v = 2
              · have e2 : (vi == 2) = true := by rw [← hvi.out, h2]; rfl
                have HF : Hid (turnP S f (k + 1) = (turnP S f k).set k 3) := Lib.hid (by rw [HS.out, hin.out, h2]; rfl)
                replace h1 := Lib.hid h1
                replace h2 := Lib.hid h2
                go_wp2_with fail
                go_roundw
                case rel => exact ⟨k + 1, by omega, by go_num, by rw [HF.out]; exact HJ2.out.1, hG2.out⟩
                case measure => simp [intOf] <;> omega
              · have e2 : (vi == 2) = false := u8i hvi.out h2
                have HF : Hid (turnP S f (k + 1) = turnP S f k) := Lib.hid (HU.out (by rw [hin.out]; simp [h1, h2]))
                replace h1 := Lib.hid h1
                replace h2 := Lib.hid h2
                go_wp2_with fail
                go_roundw
                case rel => exact ⟨k + 1, by omega, by go_num, by rw [HF.out]; exact hJ.out, hG.out⟩
                case measure => simp [intOf] <;> omega
    · have hk3 : k = n + 1 := by omega
      subst hk3
      rw [HT.out] at hJ
      go_wp2_with fail
      go_end0
      exact ⟨rfl, hJ, hG⟩
end
end Go.Proofs.Ytljpboikjhckiaa
