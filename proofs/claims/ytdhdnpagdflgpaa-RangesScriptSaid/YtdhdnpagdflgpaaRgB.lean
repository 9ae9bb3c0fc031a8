/- ranges: slices.Delete of one range. -/
import Derived.Test.YtdhdnpagdflgpaaRgA
namespace Go.Proofs.Ytdhdnpagdflgpaa
open Go.RowKit

def Rz : List Value := [.int .u64 0, .int .u64 0]

set_option maxHeartbeats 4000000 in
theorem delete_any (l : List Rg) (g c k : Nat) (w : World) (hown : w.ownsRow 0 33 2 (.slice (some ⟨g, 0, none⟩) l.length c) l.length (rgv l)) (hl : l.length ≤ 1000000) (hk : k < l.length) :
    Calls Try.prog 32 #[.slice (some ⟨g, 0, none⟩) l.length c, .int .i64 k, .int .i64 ((k : Int) + 1)] w fun e w' =>
      e = .returned (.slice (some ⟨g, 0, none⟩) (l.length - 1) c) ∧ w'.ownsRow 0 33 2 (.slice (some ⟨g, 0, none⟩) (l.length - 1) c) (l.length - 1) (rgv (l.take k ++ l.drop (k + 1))) ∧ Fr (fun j => j = g) w w' := by
  obtain ⟨i0, hi, hz0, hz1, hz2⟩ := info_parts infoR
  obtain ⟨A0, c0, hA0, hnc, hcm⟩ := own_shape w hown
  injection hA0 with hA1 hA2 hA3
  subst hA3
  clear hA1
  simp only [maxLen] at hcm
  obtain ⟨n, hn⟩ : ∃ n, l.length = n := ⟨_, rfl⟩
  obtain ⟨q, hq⟩ : ∃ q, n = q + 1 := ⟨n - 1, by omega⟩
  obtain ⟨m, hm⟩ : ∃ m, k + m = q := ⟨q - k, by omega⟩
  have hkk : n - 1 = q := by omega
  obtain ⟨W1, hW1⟩ : ∃ W1, w.drew.setCells g (0 + k * 2) (rgv (l.drop (k + 1))) = W1 := ⟨_, rfl⟩
  obtain ⟨W2, hW2⟩ : ∃ W2, W1.setCells g (q * 2) Rz = W2 := ⟨_, rfl⟩
  have o0 : w.drew.ownsRow 0 33 2 (.slice (some ⟨g, 0, none⟩) l.length c) l.length (rgv l) := hown
  have r0 : Rd w.drew (some ⟨g, 0, none⟩) (rgv l) := fun _ => ⟨g, 0, rfl, fun j u hu => by
    have := o0.cells (g := g) rfl j u hu
    rwa [WideShapes.add_plain] at this⟩
  have o1 := own_setCells (rgv (l.drop (k + 1))) (0 + k * 2) w.drew (rgv l) o0 (by simp; omega)
  rw [hW1] at o1
  have o2 := own_setCells Rz (q * 2) W1 _ o1.1 (by simp [Rz]; omega)
  rw [hW2] at o2
  have hlist : (((rgv l).take (0 + k * 2) ++ rgv (l.drop (k + 1)) ++ (rgv l).drop (0 + k * 2 + (rgv (l.drop (k + 1))).length)).take (q * 2) ++ Rz ++ ((rgv l).take (0 + k * 2) ++ rgv (l.drop (k + 1)) ++ (rgv l).drop (0 + k * 2 + (rgv (l.drop (k + 1))).length)).drop (q * 2 + Rz.length)).take (q * 2) = rgv (l.take k ++ l.drop (k + 1)) := by
    rw [Nat.zero_add, List.append_assoc, List.take_append_of_le_length (by simp; omega), List.take_take, Nat.min_self, rgv_append, rgv_take, List.take_append_of_le_length (by simp; omega), List.take_of_length_le (by simp; omega)]
  have o3 : W2.ownsRow 0 33 2 (.slice (some ⟨g, 0, none⟩) q c) q (rgv (l.take k ++ l.drop (k + 1))) := by
    have := own_cut o2.1 (m := q) (by omega)
    rwa [hlist] at this
  have FW : Fr (fun j => j = g) w W2 := Fr.trans (Fr.trans (Still.fr (Still.drew w) _) o1.2) o2.2
  have cells1 : ∀ j, j < n * 2 → (w.drew.cell? ⟨g, j, none⟩).isSome = true := fun j hj => by
    rw [o0.cellAt j (by omega), List.getElem?_eq_getElem (by simp; omega)]; rfl
  have cells2 : ∀ j, j < n * 2 → (W1.cell? ⟨g, j, none⟩).isSome = true := fun j hj => by
    rw [o1.1.cellAt j (by omega), List.getElem?_eq_getElem (by simp; omega)]; rfl
  have froz1 : ∀ j, w.drew.frozen? ⟨g, j, none⟩ = false := fun j => o0.frozenAt j
  have froz2 : ∀ j, W1.frozen? ⟨g, j, none⟩ = false := fun j => o1.1.frozenAt j
  have hcl : ∀ ty c6, (Builtin.clear_ #[30] ty #[.slice (some ⟨g, q * 2, none⟩) 1 c6]).run Try.prog W1 = .ok (.tuple #[]) W2 := fun ty c6 => by
    have hz : ∀ w, (zeroValue 33).run Try.prog w = .ok (.agg #[.int .u64 0, .int .u64 0]) w := fun w => by
      simp [zeroValue, typeInfo, hi, hz0]
    rw [run_clear_rec (P := Try.prog) W1 30 33 ty _ 2 Try.underlying30 hz rfl (by intro u hu; simp [Value.cells] at hu; subst hu; rfl) g (q * 2) c6 (fun j hj => cells2 _ (by omega)) (fun j _ => froz2 _), ← hW2]
    rfl
  rw [hn] at hown ⊢
  have HS1 := cutS_lhm (P := Try.prog) Try.underlying30 infoR (some ⟨g, 0, none⟩) n c k (k + 1) n (k : Int) ((k : Int) + 1) (n : Int) rfl rfl rfl (by omega) (by omega) (by omega)
  obtain ⟨X1, m1, c1, HS1⟩ := HS1
  have HS2 := cutS_h (P := Try.prog) Try.underlying30 infoR (some ⟨g, 0, none⟩) n c k (k : Int) rfl (by omega)
  have HS3 := cutS_l (P := Try.prog) Try.underlying30 infoR (some ⟨g, 0, none⟩) n c (k + 1) m ((k : Int) + 1) rfl (by omega) (by omega)
  have HS4 := cutS_lh (P := Try.prog) Try.underlying30 infoR (some ⟨g, 0, none⟩) q c q n 1 (q : Int) (n : Int) rfl rfl (by omega) (by omega)
  rw [if_neg (by omega), show (some (⟨g, 0, none⟩ : Addr)).map (·.add (q * 2)) = some ⟨g, q * 2, none⟩ from by simp [WideShapes.add_plain]] at HS4
  obtain ⟨ad, had, hsrc⟩ : ∃ ad : Addr, (if c = k + 1 then some (⟨g, 0, none⟩ : Addr) else (some (⟨g, 0, none⟩ : Addr)).map (·.add ((k + 1) * 2))) = some ad ∧ Hid (∀ j u, (rgv (l.drop (k + 1)))[j]? = some u → w.drew.cell? (ad.add j) = some u) := by
    by_cases h : c = k + 1
    · refine ⟨⟨g, 0, none⟩, by rw [if_pos h], Lib.hid fun j u hu => ?_⟩
      have := (List.getElem?_eq_some_iff.1 hu).1
      simp at this
      omega
    · refine ⟨⟨g, (k + 1) * 2, none⟩, by rw [if_neg h]; simp [WideShapes.add_plain], Lib.hid fun j u hu => ?_⟩
      rw [rgv_drop, List.getElem?_drop] at hu
      have := r0.cells _ _ hu
      rw [WideShapes.add_plain] at this ⊢
      rw [show 0 + ((k + 1) * 2 + j) = (k + 1) * 2 + j by omega] at this
      exact this
  rw [had] at HS3
  have s1 : Hid ((rgv (l.drop (k + 1))).length = m * 2) := Lib.hid (by simp; omega)
  have s3 : Hid (∀ j, j < (rgv (l.drop (k + 1))).length → (w.drew.cell? ⟨g, 0 + k * 2 + j, none⟩).isSome = true ∧ w.drew.frozen? ⟨g, 0 + k * 2 + j, none⟩ = false) := Lib.hid (fun j hj => ⟨cells1 _ (by simp at hj; omega), froz1 _⟩)
  have hroom : Hid (k + m ≤ c) := Lib.hid (by omega)
  have heq : ((k : Int) == (k : Int) + 1) = false := beq_eq_false_iff_ne.2 (by omega)
  rw [hkk]
  replace o3 := Lib.hid o3
  replace FW := Lib.hid FW
  replace hW1 := Lib.hid hW1
  replace hm := Lib.hid hm
  have hks : (k : Int) < 1000000 := by omega
  clear hW2 o0 r0 o1 o2 hlist cells1 cells2 froz1 froz2 hown hn hq hkk had hz0 hl hk
  go_enter Try.func32, Try.ntmps32
  go_wp2_with fail
  go_region_law (refine step_append_room rfl (.tmp 22) (.tmp 25) 30 rfl 33 i0 2 Try.underlying30 hi hz1 g 0 k c (by simp [Act.eval, Act.put]) ad m (c - (k + 1)) (rgv (l.drop (k + 1))) (by simp [Act.eval, Act.put]) s1.out hsrc.out (rgv_one _) hroom.out s3.out ?_; rw [hW1.out, hm.out])
  go_wp2_with fail
  go_ret
  exact ⟨rfl, o3.out, FW.out⟩
end Go.Proofs.Ytdhdnpagdflgpaa
