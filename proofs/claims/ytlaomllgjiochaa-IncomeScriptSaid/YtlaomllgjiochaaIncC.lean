/- income.Read: what it returns and leaves. -/
import Derived.Test.YtlaomllgjiochaaIncB
import Derived.Test.YtlaomllgjiochaaClone
import Derived.StillTailTactics
namespace Go.Proofs.Ytlaomllgjiochaa
open Go.RowKit

theorem bv_take (l : List UInt8) (k : Nat) : bv (l.take k) = (bv l).take k := by simp [bv, List.map_take]
theorem bv_drop (l : List UInt8) (k : Nat) : bv (l.drop k) = (bv l).drop k := by simp [bv, List.map_drop]

/-- What Read hands back and leaves. -/
def IReadR (p r g n c m : Nat) (a0 a1 a3 a5 : Value) (l : List UInt8) (w : World) (e : Ending) (w' : World) : Prop :=
  ∃ A c', e = .returned (.slice A m c') ∧ w'.ownsRow w.heap.size 5 1 (.slice A m c') m (bv ((l.drop r).take m)) ∧
    w'.heap[p]? = some (.cells #[a0, a1, .int .i64 ((r + m : Nat) : Int), a3, .slice (some ⟨g, 0, none⟩) n c, a5] 48 (0, 0)) ∧ Fr (· = p) w w'

set_option maxHeartbeats 4000000 in
theorem iread_fit (p r q g n c : Nat) (m : Nat) (a0 a1 a3 a5 : Value) (l : List UInt8) (w : World) (hl : l.length = n)
    (hb : w.heap[p]? = some (.cells #[a0, a1, .int .i64 r, a3, .slice (some ⟨g, 0, none⟩) n c, a5] 48 (0, 0)))
    (hr : Rd w (some ⟨g, 0, none⟩) (bv l)) (hgp : g ≠ p) (hq : r + q ≤ n) (hn : n ≤ 1048576) (hc : n ≤ c) (hcc : c ≤ 9223372036854775807) (hm0 : 0 < m) (hm : m ≤ q)
    (CR : Hid (Calls Try.prog 19 #[.pointer (some ⟨p, 0, none⟩)] w fun e w' => e = .returned (.int .i64 q) ∧ ∃ k, w' = w.drewN k)) :
    Calls Try.prog 12 #[.pointer (some ⟨p, 0, none⟩), .int .i64 m] w ((IReadR p r g n c m a0 a1 a3 a5 l w)) := by
  have c2 : ∀ k, (w.drewN k).cell? ⟨p, 2, none⟩ = some (.int .i64 r) := fun k => wrote_cell (w := w.drewN k) hb 2 _ rfl
  have f2 := fun k => frozen_of_row (w.drewN k) p 2 _ 48 hb
  have HB := fun k => heap_setCell_same (w.drewN k) p 2 _ 48 (.int .i64 ((r : Int) + m)) hb
  simp only [List.setIfInBounds_toArray, List.set_cons_succ, List.set_cons_zero] at HB
  replace HB := Lib.hid HB
  have hsub : (r : Int) + m - m = r := by omega
  go_enter Try.func12, Try.ntmps12
  go_wp2_with fail
  refine CR.out.mono ?_
  rintro e w' ⟨rfl, k, rfl⟩
  replace c2 := c2 k
  replace f2 := f2 k
  go_wp2_with fail
  have H2 := HB.out k
  have F2 := ((Fr.refl (· = p) w).drewN k).setCell (p := ⟨p, 2, none⟩) (fun _ => rfl) (.int .i64 ((r : Int) + m))
  have R2 := hr.fr F2 (fun _ a ha => by injection ha with ha; subst ha; exact hgp)
  obtain ⟨W2, hW2⟩ : ∃ W, (w.drewN k).setCell ⟨p, 2, none⟩ (.int .i64 ((r : Int) + m)) = W := ⟨_, rfl⟩
  rw [hW2] at H2 R2 F2 ⊢
  clear hW2 HB c2 f2 hb hr
  have d2 : W2.drew.cell? ⟨p, 2, none⟩ = some (.int .i64 ((r : Int) + m)) := wrote_cell (w := W2) H2 2 _ rfl
  have d4 : W2.drew.cell? ⟨p, 4, none⟩ = some (.slice (some ⟨g, 0, none⟩) n c) := wrote_cell (w := W2) H2 4 _ rfl
  have HD := R2.drop (k := r) (cap := c) (by simp; omega) (by simp; omega)
  have hne : ¬ c = r := by omega
  rw [if_neg hne] at HD
  have HT := (HD.take m).drew
  rw [← bv_drop, ← bv_take] at HT
  simp only [Option.map_some, WideShapes.add_plain, Nat.zero_add] at HT
  have hlen : ((l.drop r).take m).length = m := by simp; omega
  have CL := clone_any _ _ (c - r) _ HT (fun h => by cases h) (by omega)
  rw [hlen] at CL
  replace CL := Lib.hid CL
  have hwr : IntKind.i64.wrap (r : Int) = r := by rw [IntKind.wrap_i64]; omega
  have b1 : (0 : Int) ≤ r := by omega
  have b2 : (r : Int) ≤ (r : Int) + m := by omega
  have b3 : (r : Int) + m ≤ (c : Nat) := by omega
  have hsz := F2.size
  go_still_tail 15, (by kernel_rfl)
  change wpList _ _ _ _ _ W2.drew
  rw [show ((r : Int) + m).toNat - r = m from by omega]
  go_wp2_with fail
  refine CL.out.mono ?_
  rintro e w5 ⟨A5, c5, rfl, ho5, hb5⟩
  go_wp2_with fail
  go_ret
  have hsz5 : W2.drew.heap.size = W2.heap.size := rfl
  have H5 := heap_fr (w := W2.drew) (w' := w5) H2 (Fr.of_below hb5 NoS) (fun x => x)
  refine ⟨A5, c5, rfl, own_base ho5 (fun j hj => by have := (ho5.lt j hj).1; omega), ?_, F2.drew.trans (Fr.of_below hb5 _)⟩
  simpa using H5

set_option maxHeartbeats 4000000 in
theorem iread_more (p r q g n c : Nat) (x : Int) (a0 a1 a3 a5 : Value) (l : List UInt8) (w : World) (hl : l.length = n)
    (hb : w.heap[p]? = some (.cells #[a0, a1, .int .i64 r, a3, .slice (some ⟨g, 0, none⟩) n c, a5] 48 (0, 0)))
    (hr : Rd w (some ⟨g, 0, none⟩) (bv l)) (hgp : g ≠ p) (hq : r + q ≤ n) (hn : n ≤ 1048576) (hc : n ≤ c) (hcc : c ≤ 9223372036854775807) (hm0 : 0 < q) (hm : q < x)
    (CR : Hid (Calls Try.prog 19 #[.pointer (some ⟨p, 0, none⟩)] w fun e w' => e = .returned (.int .i64 q) ∧ ∃ k, w' = w.drewN k)) :
    Calls Try.prog 12 #[.pointer (some ⟨p, 0, none⟩), .int .i64 x] w ((IReadR p r g n c q a0 a1 a3 a5 l w)) := by
  have c2 : ∀ k, (w.drewN k).cell? ⟨p, 2, none⟩ = some (.int .i64 r) := fun k => wrote_cell (w := w.drewN k) hb 2 _ rfl
  have f2 := fun k => frozen_of_row (w.drewN k) p 2 _ 48 hb
  have HB := fun k => heap_setCell_same (w.drewN k) p 2 _ 48 (.int .i64 ((r : Int) + q)) hb
  simp only [List.setIfInBounds_toArray, List.set_cons_succ, List.set_cons_zero] at HB
  replace HB := Lib.hid HB
  have hsub : (r : Int) + q - q = r := by omega
  go_enter Try.func12, Try.ntmps12
  go_wp2_with fail
  refine CR.out.mono ?_
  rintro e w' ⟨rfl, k, rfl⟩
  replace c2 := c2 k
  replace f2 := f2 k
  go_wp2_with fail
  have H2 := HB.out k
  have F2 := ((Fr.refl (· = p) w).drewN k).setCell (p := ⟨p, 2, none⟩) (fun _ => rfl) (.int .i64 ((r : Int) + q))
  have R2 := hr.fr F2 (fun _ a ha => by injection ha with ha; subst ha; exact hgp)
  obtain ⟨W2, hW2⟩ : ∃ W, (w.drewN k).setCell ⟨p, 2, none⟩ (.int .i64 ((r : Int) + q)) = W := ⟨_, rfl⟩
  rw [hW2] at H2 R2 F2 ⊢
  clear hW2 HB c2 f2 hb hr
  have d2 : W2.drew.cell? ⟨p, 2, none⟩ = some (.int .i64 ((r : Int) + q)) := wrote_cell (w := W2) H2 2 _ rfl
  have d4 : W2.drew.cell? ⟨p, 4, none⟩ = some (.slice (some ⟨g, 0, none⟩) n c) := wrote_cell (w := W2) H2 4 _ rfl
  have HD := R2.drop (k := r) (cap := c) (by simp; omega) (by simp; omega)
  have hne : ¬ c = r := by omega
  rw [if_neg hne] at HD
  have HT := (HD.take q).drew
  rw [← bv_drop, ← bv_take] at HT
  simp only [Option.map_some, WideShapes.add_plain, Nat.zero_add] at HT
  have hlen : ((l.drop r).take q).length = q := by simp; omega
  have CL := clone_any _ _ (c - r) _ HT (fun h => by cases h) (by omega)
  rw [hlen] at CL
  replace CL := Lib.hid CL
  have hwr : IntKind.i64.wrap (r : Int) = r := by rw [IntKind.wrap_i64]; omega
  have b1 : (0 : Int) ≤ r := by omega
  have b2 : (r : Int) ≤ (r : Int) + q := by omega
  have b3 : (r : Int) + q ≤ (c : Nat) := by omega
  have hsz := F2.size
  go_still_tail 15, (by kernel_rfl)
  change wpList _ _ _ _ _ W2.drew
  rw [show ((r : Int) + q).toNat - r = q from by omega]
  go_wp2_with fail
  refine CL.out.mono ?_
  rintro e w5 ⟨A5, c5, rfl, ho5, hb5⟩
  go_wp2_with fail
  go_ret
  have hsz5 : W2.drew.heap.size = W2.heap.size := rfl
  have H5 := heap_fr (w := W2.drew) (w' := w5) H2 (Fr.of_below hb5 NoS) (fun x => x)
  refine ⟨A5, c5, rfl, own_base ho5 (fun j hj => by have := (ho5.lt j hj).1; omega), ?_, F2.drew.trans (Fr.of_below hb5 _)⟩
  simpa using H5

set_option maxHeartbeats 4000000 in
theorem iread_za0 (p r q g n c : Nat) (x : Int) (a0 a1 a3 a5 : Value) (l : List UInt8) (w : World) (hl : l.length = n)
    (hb : w.heap[p]? = some (.cells #[a0, a1, .int .i64 r, a3, .slice (some ⟨g, 0, none⟩) n c, a5] 48 (0, 0)))
    (hr : Rd w (some ⟨g, 0, none⟩) (bv l)) (hgp : g ≠ p) (hq : r + q ≤ n) (hn : n ≤ 1048576) (hc : n ≤ c) (hcc : c ≤ 9223372036854775807) (hx : x < 0) (hcr : c ≠ r)
    (CR : Hid (Calls Try.prog 19 #[.pointer (some ⟨p, 0, none⟩)] w fun e w' => e = .returned (.int .i64 q) ∧ ∃ k, w' = w.drewN k)) :
    Calls Try.prog 12 #[.pointer (some ⟨p, 0, none⟩), .int .i64 x] w ((IReadR p r g n c 0 a0 a1 a3 a5 l w)) := by
  have c2 : ∀ k, (w.drewN k).cell? ⟨p, 2, none⟩ = some (.int .i64 r) := fun k => wrote_cell (w := w.drewN k) hb 2 _ rfl
  have f2 := fun k => frozen_of_row (w.drewN k) p 2 _ 48 hb
  have HB := fun k => heap_setCell_same (w.drewN k) p 2 _ 48 (.int .i64 ((r : Int))) hb
  simp only [List.setIfInBounds_toArray, List.set_cons_succ, List.set_cons_zero] at HB
  replace HB := Lib.hid HB
  go_enter Try.func12, Try.ntmps12
  go_wp2_with fail
  refine CR.out.mono ?_
  rintro e w' ⟨rfl, k, rfl⟩
  replace c2 := c2 k
  replace f2 := f2 k
  go_wp2_with fail
  have H2 := HB.out k
  have F2 := ((Fr.refl (· = p) w).drewN k).setCell (p := ⟨p, 2, none⟩) (fun _ => rfl) (.int .i64 ((r : Int)))
  have R2 := hr.fr F2 (fun _ a ha => by injection ha with ha; subst ha; exact hgp)
  obtain ⟨W2, hW2⟩ : ∃ W, (w.drewN k).setCell ⟨p, 2, none⟩ (.int .i64 ((r : Int))) = W := ⟨_, rfl⟩
  rw [hW2] at H2 R2 F2 ⊢
  clear hW2 HB c2 f2 hb hr
  have d2 : W2.drew.cell? ⟨p, 2, none⟩ = some (.int .i64 ((r : Int))) := wrote_cell (w := W2) H2 2 _ rfl
  have d4 : W2.drew.cell? ⟨p, 4, none⟩ = some (.slice (some ⟨g, 0, none⟩) n c) := wrote_cell (w := W2) H2 4 _ rfl
  have HD := R2.drop (k := r) (cap := c) (by simp; omega) (by simp; omega)
  have hne : ¬ c = r := by omega
  rw [if_neg hne] at HD
  have HT := (HD.take 0).drew
  rw [← bv_drop, ← bv_take] at HT
  simp only [Option.map_some, WideShapes.add_plain, Nat.zero_add] at HT
  have hlen : ((l.drop r).take 0).length = 0 := by simp
  have CL := clone_any _ _ (c - r) _ HT (fun h => by cases h) (by omega)
  rw [hlen] at CL
  replace CL := Lib.hid CL
  have hwr : IntKind.i64.wrap (r : Int) = r := by rw [IntKind.wrap_i64]; omega
  have b1 : (0 : Int) ≤ r := by omega
  have b2 : (r : Int) ≤ (r : Int) := by omega
  have b3 : (r : Int) ≤ (c : Nat) := by omega
  have hsz := F2.size
  go_still_tail 15, (by kernel_rfl)
  change wpList _ _ _ _ _ W2.drew
  try rw [show ((r : Int)).toNat - r = 0 from by omega]
  try simp only [Nat.sub_self]
  go_wp2_with fail
  refine CL.out.mono ?_
  rintro e w5 ⟨A5, c5, rfl, ho5, hb5⟩
  go_wp2_with fail
  go_ret
  have hsz5 : W2.drew.heap.size = W2.heap.size := rfl
  have H5 := heap_fr (w := W2.drew) (w' := w5) H2 (Fr.of_below hb5 NoS) (fun x => x)
  refine ⟨A5, c5, rfl, own_base ho5 (fun j hj => by have := (ho5.lt j hj).1; omega), ?_, F2.drew.trans (Fr.of_below hb5 _)⟩
  simpa using H5

set_option maxHeartbeats 4000000 in
theorem iread_zb0 (p r q g n : Nat) (x : Int) (a0 a1 a3 a5 : Value) (l : List UInt8) (w : World) (hl : l.length = n)
    (hb : w.heap[p]? = some (.cells #[a0, a1, .int .i64 r, a3, .slice (some ⟨g, 0, none⟩) n r, a5] 48 (0, 0)))
    (hr : Rd w (some ⟨g, 0, none⟩) (bv l)) (hgp : g ≠ p) (hq : r + q ≤ n) (hn : n ≤ 1048576) (hc : n ≤ r) (hcc : r ≤ 9223372036854775807) (hx : x < 0)
    (CR : Hid (Calls Try.prog 19 #[.pointer (some ⟨p, 0, none⟩)] w fun e w' => e = .returned (.int .i64 q) ∧ ∃ k, w' = w.drewN k)) :
    Calls Try.prog 12 #[.pointer (some ⟨p, 0, none⟩), .int .i64 x] w ((IReadR p r g n r 0 a0 a1 a3 a5 l w)) := by
  have c2 : ∀ k, (w.drewN k).cell? ⟨p, 2, none⟩ = some (.int .i64 r) := fun k => wrote_cell (w := w.drewN k) hb 2 _ rfl
  have f2 := fun k => frozen_of_row (w.drewN k) p 2 _ 48 hb
  have HB := fun k => heap_setCell_same (w.drewN k) p 2 _ 48 (.int .i64 ((r : Int))) hb
  simp only [List.setIfInBounds_toArray, List.set_cons_succ, List.set_cons_zero] at HB
  replace HB := Lib.hid HB
  go_enter Try.func12, Try.ntmps12
  go_wp2_with fail
  refine CR.out.mono ?_
  rintro e w' ⟨rfl, k, rfl⟩
  replace c2 := c2 k
  replace f2 := f2 k
  go_wp2_with fail
  have H2 := HB.out k
  have F2 := ((Fr.refl (· = p) w).drewN k).setCell (p := ⟨p, 2, none⟩) (fun _ => rfl) (.int .i64 ((r : Int)))
  have R2 := hr.fr F2 (fun _ a ha => by injection ha with ha; subst ha; exact hgp)
  obtain ⟨W2, hW2⟩ : ∃ W, (w.drewN k).setCell ⟨p, 2, none⟩ (.int .i64 ((r : Int))) = W := ⟨_, rfl⟩
  rw [hW2] at H2 R2 F2 ⊢
  clear hW2 HB c2 f2 hb hr
  have d2 : W2.drew.cell? ⟨p, 2, none⟩ = some (.int .i64 ((r : Int))) := wrote_cell (w := W2) H2 2 _ rfl
  have d4 : W2.drew.cell? ⟨p, 4, none⟩ = some (.slice (some ⟨g, 0, none⟩) n r) := wrote_cell (w := W2) H2 4 _ rfl
  have HD := R2.drop (k := r) (cap := r) (by simp; omega) (by simp; omega)
  rw [if_pos rfl] at HD
  have HT := (HD.take 0).drew
  rw [← bv_drop, ← bv_take] at HT
  have hlen : ((l.drop r).take 0).length = 0 := by simp
  have CL := clone_any _ _ (0) _ HT (fun h => by cases h) (by omega)
  rw [hlen] at CL
  replace CL := Lib.hid CL
  have hwr : IntKind.i64.wrap (r : Int) = r := by rw [IntKind.wrap_i64]; omega
  have b1 : (0 : Int) ≤ r := by omega
  have b2 : (r : Int) ≤ (r : Int) := by omega
  have b3 : (r : Int) ≤ (r : Nat) := by omega
  have hsz := F2.size
  go_still_tail 15, (by kernel_rfl)
  change wpList _ _ _ _ _ W2.drew
  try rw [show ((r : Int)).toNat - r = 0 from by omega]
  try simp only [Nat.sub_self]
  go_wp2_with fail
  refine CL.out.mono ?_
  rintro e w5 ⟨A5, c5, rfl, ho5, hb5⟩
  go_wp2_with fail
  go_ret
  have hsz5 : W2.drew.heap.size = W2.heap.size := rfl
  have H5 := heap_fr (w := W2.drew) (w' := w5) H2 (Fr.of_below hb5 NoS) (fun x => x)
  refine ⟨A5, c5, rfl, own_base ho5 (fun j hj => by have := (ho5.lt j hj).1; omega), ?_, F2.drew.trans (Fr.of_below hb5 _)⟩
  simpa using H5

set_option maxHeartbeats 4000000 in
theorem iread_n0 (p : Nat) (x : Int) (a0 a1 a3 a5 : Value) (w : World) (hb : w.heap[p]? = some (.cells #[a0, a1, .int .i64 0, a3, .slice none 0 0, a5] 48 (0, 0))) (hx : x < 0)
    (CR : Hid (Calls Try.prog 19 #[.pointer (some ⟨p, 0, none⟩)] w fun e w' => e = .returned (.int .i64 0) ∧ ∃ k, w' = w.drewN k)) :
    Calls Try.prog 12 #[.pointer (some ⟨p, 0, none⟩), .int .i64 x] w (fun e w' => ∃ A c', e = .returned (.slice A 0 c') ∧ w'.ownsRow w.heap.size 5 1 (.slice A 0 c') 0 [] ∧ w'.heap[p]? = some (.cells #[a0, a1, .int .i64 0, a3, .slice none 0 0, a5] 48 (0, 0)) ∧ Fr (· = p) w w') := by
  have c2 : ∀ k, (w.drewN k).cell? ⟨p, 2, none⟩ = some (.int .i64 0) := fun k => wrote_cell (w := w.drewN k) hb 2 _ rfl
  have f2 := fun k => frozen_of_row (w.drewN k) p 2 _ 48 hb
  have HB := fun k => heap_setCell_same (w.drewN k) p 2 _ 48 (.int .i64 (0)) hb
  simp only [List.setIfInBounds_toArray, List.set_cons_succ, List.set_cons_zero] at HB
  replace HB := Lib.hid HB
  go_enter Try.func12, Try.ntmps12
  go_wp2_with fail
  refine CR.out.mono ?_
  rintro e w' ⟨rfl, k, rfl⟩
  replace c2 := c2 k
  replace f2 := f2 k
  go_wp2_with fail
  have H2 := HB.out k
  have F2 := ((Fr.refl (· = p) w).drewN k).setCell (p := ⟨p, 2, none⟩) (fun _ => rfl) (.int .i64 (0))
  obtain ⟨W2, hW2⟩ : ∃ W, (w.drewN k).setCell ⟨p, 2, none⟩ (.int .i64 (0)) = W := ⟨_, rfl⟩
  rw [hW2] at H2 F2 ⊢
  clear hW2 HB c2 f2 hb
  have d2 : W2.drew.cell? ⟨p, 2, none⟩ = some (.int .i64 (0)) := wrote_cell (w := W2) H2 2 _ rfl
  have d4 : W2.drew.cell? ⟨p, 4, none⟩ = some (.slice none 0 0) := wrote_cell (w := W2) H2 4 _ rfl
  have CL := Lib.hid (clone_any [] none 0 W2.drew (Rd.nil _ _) (fun _ => rfl) (by decide))
  have hwr : IntKind.i64.wrap 0 = 0 := by rw [IntKind.wrap_i64]; omega
  have hsz := F2.size
  go_still_tail 15, (by kernel_rfl)
  change wpList _ _ _ _ _ W2.drew
  go_wp2_with fail
  refine CL.out.mono ?_
  rintro e w5 ⟨A5, c5, rfl, ho5, hb5⟩
  go_wp2_with fail
  go_ret
  have hsz5 : W2.drew.heap.size = W2.heap.size := rfl
  have H5 := heap_fr (w := W2.drew) (w' := w5) H2 (Fr.of_below hb5 NoS) (fun x => x)
  refine ⟨A5, c5, rfl, own_base ho5 (fun j hj => by have := (ho5.lt j hj).1; omega), H5, F2.drew.trans (Fr.of_below hb5 _)⟩

set_option maxHeartbeats 4000000 in
theorem iread_za1 (p r q g n c : Nat)  (a0 a1 a3 a5 : Value) (l : List UInt8) (w : World) (hl : l.length = n)
    (hb : w.heap[p]? = some (.cells #[a0, a1, .int .i64 r, a3, .slice (some ⟨g, 0, none⟩) n c, a5] 48 (0, 0)))
    (hr : Rd w (some ⟨g, 0, none⟩) (bv l)) (hgp : g ≠ p) (hq : r + q ≤ n) (hn : n ≤ 1048576) (hc : n ≤ c) (hcc : c ≤ 9223372036854775807)  (hcr : c ≠ r)
    (CR : Hid (Calls Try.prog 19 #[.pointer (some ⟨p, 0, none⟩)] w fun e w' => e = .returned (.int .i64 q) ∧ ∃ k, w' = w.drewN k)) :
    Calls Try.prog 12 #[.pointer (some ⟨p, 0, none⟩), .int .i64 0] w ((IReadR p r g n c 0 a0 a1 a3 a5 l w)) := by
  have c2 : ∀ k, (w.drewN k).cell? ⟨p, 2, none⟩ = some (.int .i64 r) := fun k => wrote_cell (w := w.drewN k) hb 2 _ rfl
  have f2 := fun k => frozen_of_row (w.drewN k) p 2 _ 48 hb
  have HB := fun k => heap_setCell_same (w.drewN k) p 2 _ 48 (.int .i64 ((r : Int))) hb
  simp only [List.setIfInBounds_toArray, List.set_cons_succ, List.set_cons_zero] at HB
  replace HB := Lib.hid HB
  go_enter Try.func12, Try.ntmps12
  go_wp2_with fail
  refine CR.out.mono ?_
  rintro e w' ⟨rfl, k, rfl⟩
  replace c2 := c2 k
  replace f2 := f2 k
  go_wp2_with fail
  have H2 := HB.out k
  have F2 := ((Fr.refl (· = p) w).drewN k).setCell (p := ⟨p, 2, none⟩) (fun _ => rfl) (.int .i64 ((r : Int)))
  have R2 := hr.fr F2 (fun _ a ha => by injection ha with ha; subst ha; exact hgp)
  obtain ⟨W2, hW2⟩ : ∃ W, (w.drewN k).setCell ⟨p, 2, none⟩ (.int .i64 ((r : Int))) = W := ⟨_, rfl⟩
  rw [hW2] at H2 R2 F2 ⊢
  clear hW2 HB c2 f2 hb hr
  have d2 : W2.drew.cell? ⟨p, 2, none⟩ = some (.int .i64 ((r : Int))) := wrote_cell (w := W2) H2 2 _ rfl
  have d4 : W2.drew.cell? ⟨p, 4, none⟩ = some (.slice (some ⟨g, 0, none⟩) n c) := wrote_cell (w := W2) H2 4 _ rfl
  have HD := R2.drop (k := r) (cap := c) (by simp; omega) (by simp; omega)
  have hne : ¬ c = r := by omega
  rw [if_neg hne] at HD
  have HT := (HD.take 0).drew
  rw [← bv_drop, ← bv_take] at HT
  simp only [Option.map_some, WideShapes.add_plain, Nat.zero_add] at HT
  have hlen : ((l.drop r).take 0).length = 0 := by simp
  have CL := clone_any _ _ (c - r) _ HT (fun h => by cases h) (by omega)
  rw [hlen] at CL
  replace CL := Lib.hid CL
  have hwr : IntKind.i64.wrap (r : Int) = r := by rw [IntKind.wrap_i64]; omega
  have b1 : (0 : Int) ≤ r := by omega
  have b2 : (r : Int) ≤ (r : Int) := by omega
  have b3 : (r : Int) ≤ (c : Nat) := by omega
  have hsz := F2.size
  go_still_tail 15, (by kernel_rfl)
  change wpList _ _ _ _ _ W2.drew
  try rw [show ((r : Int)).toNat - r = 0 from by omega]
  try simp only [Nat.sub_self]
  go_wp2_with fail
  refine CL.out.mono ?_
  rintro e w5 ⟨A5, c5, rfl, ho5, hb5⟩
  go_wp2_with fail
  go_ret
  have hsz5 : W2.drew.heap.size = W2.heap.size := rfl
  have H5 := heap_fr (w := W2.drew) (w' := w5) H2 (Fr.of_below hb5 NoS) (fun x => x)
  refine ⟨A5, c5, rfl, own_base ho5 (fun j hj => by have := (ho5.lt j hj).1; omega), ?_, F2.drew.trans (Fr.of_below hb5 _)⟩
  simpa using H5

set_option maxHeartbeats 4000000 in
theorem iread_zb1 (p r q g n : Nat)  (a0 a1 a3 a5 : Value) (l : List UInt8) (w : World) (hl : l.length = n)
    (hb : w.heap[p]? = some (.cells #[a0, a1, .int .i64 r, a3, .slice (some ⟨g, 0, none⟩) n r, a5] 48 (0, 0)))
    (hr : Rd w (some ⟨g, 0, none⟩) (bv l)) (hgp : g ≠ p) (hq : r + q ≤ n) (hn : n ≤ 1048576) (hc : n ≤ r) (hcc : r ≤ 9223372036854775807) 
    (CR : Hid (Calls Try.prog 19 #[.pointer (some ⟨p, 0, none⟩)] w fun e w' => e = .returned (.int .i64 q) ∧ ∃ k, w' = w.drewN k)) :
    Calls Try.prog 12 #[.pointer (some ⟨p, 0, none⟩), .int .i64 0] w ((IReadR p r g n r 0 a0 a1 a3 a5 l w)) := by
  have c2 : ∀ k, (w.drewN k).cell? ⟨p, 2, none⟩ = some (.int .i64 r) := fun k => wrote_cell (w := w.drewN k) hb 2 _ rfl
  have f2 := fun k => frozen_of_row (w.drewN k) p 2 _ 48 hb
  have HB := fun k => heap_setCell_same (w.drewN k) p 2 _ 48 (.int .i64 ((r : Int))) hb
  simp only [List.setIfInBounds_toArray, List.set_cons_succ, List.set_cons_zero] at HB
  replace HB := Lib.hid HB
  go_enter Try.func12, Try.ntmps12
  go_wp2_with fail
  refine CR.out.mono ?_
  rintro e w' ⟨rfl, k, rfl⟩
  replace c2 := c2 k
  replace f2 := f2 k
  go_wp2_with fail
  have H2 := HB.out k
  have F2 := ((Fr.refl (· = p) w).drewN k).setCell (p := ⟨p, 2, none⟩) (fun _ => rfl) (.int .i64 ((r : Int)))
  have R2 := hr.fr F2 (fun _ a ha => by injection ha with ha; subst ha; exact hgp)
  obtain ⟨W2, hW2⟩ : ∃ W, (w.drewN k).setCell ⟨p, 2, none⟩ (.int .i64 ((r : Int))) = W := ⟨_, rfl⟩
  rw [hW2] at H2 R2 F2 ⊢
  clear hW2 HB c2 f2 hb hr
  have d2 : W2.drew.cell? ⟨p, 2, none⟩ = some (.int .i64 ((r : Int))) := wrote_cell (w := W2) H2 2 _ rfl
  have d4 : W2.drew.cell? ⟨p, 4, none⟩ = some (.slice (some ⟨g, 0, none⟩) n r) := wrote_cell (w := W2) H2 4 _ rfl
  have HD := R2.drop (k := r) (cap := r) (by simp; omega) (by simp; omega)
  rw [if_pos rfl] at HD
  have HT := (HD.take 0).drew
  rw [← bv_drop, ← bv_take] at HT
  have hlen : ((l.drop r).take 0).length = 0 := by simp
  have CL := clone_any _ _ (0) _ HT (fun h => by cases h) (by omega)
  rw [hlen] at CL
  replace CL := Lib.hid CL
  have hwr : IntKind.i64.wrap (r : Int) = r := by rw [IntKind.wrap_i64]; omega
  have b1 : (0 : Int) ≤ r := by omega
  have b2 : (r : Int) ≤ (r : Int) := by omega
  have b3 : (r : Int) ≤ (r : Nat) := by omega
  have hsz := F2.size
  go_still_tail 15, (by kernel_rfl)
  change wpList _ _ _ _ _ W2.drew
  try rw [show ((r : Int)).toNat - r = 0 from by omega]
  try simp only [Nat.sub_self]
  go_wp2_with fail
  refine CL.out.mono ?_
  rintro e w5 ⟨A5, c5, rfl, ho5, hb5⟩
  go_wp2_with fail
  go_ret
  have hsz5 : W2.drew.heap.size = W2.heap.size := rfl
  have H5 := heap_fr (w := W2.drew) (w' := w5) H2 (Fr.of_below hb5 NoS) (fun x => x)
  refine ⟨A5, c5, rfl, own_base ho5 (fun j hj => by have := (ho5.lt j hj).1; omega), ?_, F2.drew.trans (Fr.of_below hb5 _)⟩
  simpa using H5

set_option maxHeartbeats 4000000 in
theorem iread_n1 (p : Nat)  (a0 a1 a3 a5 : Value) (w : World) (hb : w.heap[p]? = some (.cells #[a0, a1, .int .i64 0, a3, .slice none 0 0, a5] 48 (0, 0))) 
    (CR : Hid (Calls Try.prog 19 #[.pointer (some ⟨p, 0, none⟩)] w fun e w' => e = .returned (.int .i64 0) ∧ ∃ k, w' = w.drewN k)) :
    Calls Try.prog 12 #[.pointer (some ⟨p, 0, none⟩), .int .i64 0] w (fun e w' => ∃ A c', e = .returned (.slice A 0 c') ∧ w'.ownsRow w.heap.size 5 1 (.slice A 0 c') 0 [] ∧ w'.heap[p]? = some (.cells #[a0, a1, .int .i64 0, a3, .slice none 0 0, a5] 48 (0, 0)) ∧ Fr (· = p) w w') := by
  have c2 : ∀ k, (w.drewN k).cell? ⟨p, 2, none⟩ = some (.int .i64 0) := fun k => wrote_cell (w := w.drewN k) hb 2 _ rfl
  have f2 := fun k => frozen_of_row (w.drewN k) p 2 _ 48 hb
  have HB := fun k => heap_setCell_same (w.drewN k) p 2 _ 48 (.int .i64 (0)) hb
  simp only [List.setIfInBounds_toArray, List.set_cons_succ, List.set_cons_zero] at HB
  replace HB := Lib.hid HB
  go_enter Try.func12, Try.ntmps12
  go_wp2_with fail
  refine CR.out.mono ?_
  rintro e w' ⟨rfl, k, rfl⟩
  replace c2 := c2 k
  replace f2 := f2 k
  go_wp2_with fail
  have H2 := HB.out k
  have F2 := ((Fr.refl (· = p) w).drewN k).setCell (p := ⟨p, 2, none⟩) (fun _ => rfl) (.int .i64 (0))
  obtain ⟨W2, hW2⟩ : ∃ W, (w.drewN k).setCell ⟨p, 2, none⟩ (.int .i64 (0)) = W := ⟨_, rfl⟩
  rw [hW2] at H2 F2 ⊢
  clear hW2 HB c2 f2 hb
  have d2 : W2.drew.cell? ⟨p, 2, none⟩ = some (.int .i64 (0)) := wrote_cell (w := W2) H2 2 _ rfl
  have d4 : W2.drew.cell? ⟨p, 4, none⟩ = some (.slice none 0 0) := wrote_cell (w := W2) H2 4 _ rfl
  have CL := Lib.hid (clone_any [] none 0 W2.drew (Rd.nil _ _) (fun _ => rfl) (by decide))
  have hwr : IntKind.i64.wrap 0 = 0 := by rw [IntKind.wrap_i64]; omega
  have hsz := F2.size
  go_still_tail 15, (by kernel_rfl)
  change wpList _ _ _ _ _ W2.drew
  go_wp2_with fail
  refine CL.out.mono ?_
  rintro e w5 ⟨A5, c5, rfl, ho5, hb5⟩
  go_wp2_with fail
  go_ret
  have hsz5 : W2.drew.heap.size = W2.heap.size := rfl
  have H5 := heap_fr (w := W2.drew) (w' := w5) H2 (Fr.of_below hb5 NoS) (fun x => x)
  refine ⟨A5, c5, rfl, own_base ho5 (fun j hj => by have := (ho5.lt j hj).1; omega), H5, F2.drew.trans (Fr.of_below hb5 _)⟩

set_option maxHeartbeats 4000000 in
theorem iread_za2 (p r g n c : Nat) (x : Int) (a0 a1 a3 a5 : Value) (l : List UInt8) (w : World) (hl : l.length = n)
    (hb : w.heap[p]? = some (.cells #[a0, a1, .int .i64 r, a3, .slice (some ⟨g, 0, none⟩) n c, a5] 48 (0, 0)))
    (hr : Rd w (some ⟨g, 0, none⟩) (bv l)) (hgp : g ≠ p) (hq : r + 0 ≤ n) (hn : n ≤ 1048576) (hc : n ≤ c) (hcc : c ≤ 9223372036854775807) (hx : 0 < x) (hcr : c ≠ r)
    (CR : Hid (Calls Try.prog 19 #[.pointer (some ⟨p, 0, none⟩)] w fun e w' => e = .returned (.int .i64 0) ∧ ∃ k, w' = w.drewN k)) :
    Calls Try.prog 12 #[.pointer (some ⟨p, 0, none⟩), .int .i64 x] w ((IReadR p r g n c 0 a0 a1 a3 a5 l w)) := by
  have c2 : ∀ k, (w.drewN k).cell? ⟨p, 2, none⟩ = some (.int .i64 r) := fun k => wrote_cell (w := w.drewN k) hb 2 _ rfl
  have f2 := fun k => frozen_of_row (w.drewN k) p 2 _ 48 hb
  have HB := fun k => heap_setCell_same (w.drewN k) p 2 _ 48 (.int .i64 ((r : Int))) hb
  simp only [List.setIfInBounds_toArray, List.set_cons_succ, List.set_cons_zero] at HB
  replace HB := Lib.hid HB
  go_enter Try.func12, Try.ntmps12
  go_wp2_with fail
  refine CR.out.mono ?_
  rintro e w' ⟨rfl, k, rfl⟩
  replace c2 := c2 k
  replace f2 := f2 k
  go_wp2_with fail
  have H2 := HB.out k
  have F2 := ((Fr.refl (· = p) w).drewN k).setCell (p := ⟨p, 2, none⟩) (fun _ => rfl) (.int .i64 ((r : Int)))
  have R2 := hr.fr F2 (fun _ a ha => by injection ha with ha; subst ha; exact hgp)
  obtain ⟨W2, hW2⟩ : ∃ W, (w.drewN k).setCell ⟨p, 2, none⟩ (.int .i64 ((r : Int))) = W := ⟨_, rfl⟩
  rw [hW2] at H2 R2 F2 ⊢
  clear hW2 HB c2 f2 hb hr
  have d2 : W2.drew.cell? ⟨p, 2, none⟩ = some (.int .i64 ((r : Int))) := wrote_cell (w := W2) H2 2 _ rfl
  have d4 : W2.drew.cell? ⟨p, 4, none⟩ = some (.slice (some ⟨g, 0, none⟩) n c) := wrote_cell (w := W2) H2 4 _ rfl
  have HD := R2.drop (k := r) (cap := c) (by simp; omega) (by simp; omega)
  have hne : ¬ c = r := by omega
  rw [if_neg hne] at HD
  have HT := (HD.take 0).drew
  rw [← bv_drop, ← bv_take] at HT
  simp only [Option.map_some, WideShapes.add_plain, Nat.zero_add] at HT
  have hlen : ((l.drop r).take 0).length = 0 := by simp
  have CL := clone_any _ _ (c - r) _ HT (fun h => by cases h) (by omega)
  rw [hlen] at CL
  replace CL := Lib.hid CL
  have hwr : IntKind.i64.wrap (r : Int) = r := by rw [IntKind.wrap_i64]; omega
  have b1 : (0 : Int) ≤ r := by omega
  have b2 : (r : Int) ≤ (r : Int) := by omega
  have b3 : (r : Int) ≤ (c : Nat) := by omega
  have hsz := F2.size
  go_still_tail 15, (by kernel_rfl)
  change wpList _ _ _ _ _ W2.drew
  try rw [show ((r : Int)).toNat - r = 0 from by omega]
  try simp only [Nat.sub_self]
  go_wp2_with fail
  refine CL.out.mono ?_
  rintro e w5 ⟨A5, c5, rfl, ho5, hb5⟩
  go_wp2_with fail
  go_ret
  have hsz5 : W2.drew.heap.size = W2.heap.size := rfl
  have H5 := heap_fr (w := W2.drew) (w' := w5) H2 (Fr.of_below hb5 NoS) (fun x => x)
  refine ⟨A5, c5, rfl, own_base ho5 (fun j hj => by have := (ho5.lt j hj).1; omega), ?_, F2.drew.trans (Fr.of_below hb5 _)⟩
  simpa using H5

set_option maxHeartbeats 4000000 in
theorem iread_zb2 (p r g n : Nat) (x : Int) (a0 a1 a3 a5 : Value) (l : List UInt8) (w : World) (hl : l.length = n)
    (hb : w.heap[p]? = some (.cells #[a0, a1, .int .i64 r, a3, .slice (some ⟨g, 0, none⟩) n r, a5] 48 (0, 0)))
    (hr : Rd w (some ⟨g, 0, none⟩) (bv l)) (hgp : g ≠ p) (hq : r + 0 ≤ n) (hn : n ≤ 1048576) (hc : n ≤ r) (hcc : r ≤ 9223372036854775807) (hx : 0 < x)
    (CR : Hid (Calls Try.prog 19 #[.pointer (some ⟨p, 0, none⟩)] w fun e w' => e = .returned (.int .i64 0) ∧ ∃ k, w' = w.drewN k)) :
    Calls Try.prog 12 #[.pointer (some ⟨p, 0, none⟩), .int .i64 x] w ((IReadR p r g n r 0 a0 a1 a3 a5 l w)) := by
  have c2 : ∀ k, (w.drewN k).cell? ⟨p, 2, none⟩ = some (.int .i64 r) := fun k => wrote_cell (w := w.drewN k) hb 2 _ rfl
  have f2 := fun k => frozen_of_row (w.drewN k) p 2 _ 48 hb
  have HB := fun k => heap_setCell_same (w.drewN k) p 2 _ 48 (.int .i64 ((r : Int))) hb
  simp only [List.setIfInBounds_toArray, List.set_cons_succ, List.set_cons_zero] at HB
  replace HB := Lib.hid HB
  go_enter Try.func12, Try.ntmps12
  go_wp2_with fail
  refine CR.out.mono ?_
  rintro e w' ⟨rfl, k, rfl⟩
  replace c2 := c2 k
  replace f2 := f2 k
  go_wp2_with fail
  have H2 := HB.out k
  have F2 := ((Fr.refl (· = p) w).drewN k).setCell (p := ⟨p, 2, none⟩) (fun _ => rfl) (.int .i64 ((r : Int)))
  have R2 := hr.fr F2 (fun _ a ha => by injection ha with ha; subst ha; exact hgp)
  obtain ⟨W2, hW2⟩ : ∃ W, (w.drewN k).setCell ⟨p, 2, none⟩ (.int .i64 ((r : Int))) = W := ⟨_, rfl⟩
  rw [hW2] at H2 R2 F2 ⊢
  clear hW2 HB c2 f2 hb hr
  have d2 : W2.drew.cell? ⟨p, 2, none⟩ = some (.int .i64 ((r : Int))) := wrote_cell (w := W2) H2 2 _ rfl
  have d4 : W2.drew.cell? ⟨p, 4, none⟩ = some (.slice (some ⟨g, 0, none⟩) n r) := wrote_cell (w := W2) H2 4 _ rfl
  have HD := R2.drop (k := r) (cap := r) (by simp; omega) (by simp; omega)
  rw [if_pos rfl] at HD
  have HT := (HD.take 0).drew
  rw [← bv_drop, ← bv_take] at HT
  have hlen : ((l.drop r).take 0).length = 0 := by simp
  have CL := clone_any _ _ (0) _ HT (fun h => by cases h) (by omega)
  rw [hlen] at CL
  replace CL := Lib.hid CL
  have hwr : IntKind.i64.wrap (r : Int) = r := by rw [IntKind.wrap_i64]; omega
  have b1 : (0 : Int) ≤ r := by omega
  have b2 : (r : Int) ≤ (r : Int) := by omega
  have b3 : (r : Int) ≤ (r : Nat) := by omega
  have hsz := F2.size
  go_still_tail 15, (by kernel_rfl)
  change wpList _ _ _ _ _ W2.drew
  try rw [show ((r : Int)).toNat - r = 0 from by omega]
  try simp only [Nat.sub_self]
  go_wp2_with fail
  refine CL.out.mono ?_
  rintro e w5 ⟨A5, c5, rfl, ho5, hb5⟩
  go_wp2_with fail
  go_ret
  have hsz5 : W2.drew.heap.size = W2.heap.size := rfl
  have H5 := heap_fr (w := W2.drew) (w' := w5) H2 (Fr.of_below hb5 NoS) (fun x => x)
  refine ⟨A5, c5, rfl, own_base ho5 (fun j hj => by have := (ho5.lt j hj).1; omega), ?_, F2.drew.trans (Fr.of_below hb5 _)⟩
  simpa using H5

set_option maxHeartbeats 4000000 in
theorem iread_n2 (p : Nat) (x : Int) (a0 a1 a3 a5 : Value) (w : World) (hb : w.heap[p]? = some (.cells #[a0, a1, .int .i64 0, a3, .slice none 0 0, a5] 48 (0, 0))) (hx : 0 < x)
    (CR : Hid (Calls Try.prog 19 #[.pointer (some ⟨p, 0, none⟩)] w fun e w' => e = .returned (.int .i64 0) ∧ ∃ k, w' = w.drewN k)) :
    Calls Try.prog 12 #[.pointer (some ⟨p, 0, none⟩), .int .i64 x] w (fun e w' => ∃ A c', e = .returned (.slice A 0 c') ∧ w'.ownsRow w.heap.size 5 1 (.slice A 0 c') 0 [] ∧ w'.heap[p]? = some (.cells #[a0, a1, .int .i64 0, a3, .slice none 0 0, a5] 48 (0, 0)) ∧ Fr (· = p) w w') := by
  have c2 : ∀ k, (w.drewN k).cell? ⟨p, 2, none⟩ = some (.int .i64 0) := fun k => wrote_cell (w := w.drewN k) hb 2 _ rfl
  have f2 := fun k => frozen_of_row (w.drewN k) p 2 _ 48 hb
  have HB := fun k => heap_setCell_same (w.drewN k) p 2 _ 48 (.int .i64 (0)) hb
  simp only [List.setIfInBounds_toArray, List.set_cons_succ, List.set_cons_zero] at HB
  replace HB := Lib.hid HB
  go_enter Try.func12, Try.ntmps12
  go_wp2_with fail
  refine CR.out.mono ?_
  rintro e w' ⟨rfl, k, rfl⟩
  replace c2 := c2 k
  replace f2 := f2 k
  go_wp2_with fail
  have H2 := HB.out k
  have F2 := ((Fr.refl (· = p) w).drewN k).setCell (p := ⟨p, 2, none⟩) (fun _ => rfl) (.int .i64 (0))
  obtain ⟨W2, hW2⟩ : ∃ W, (w.drewN k).setCell ⟨p, 2, none⟩ (.int .i64 (0)) = W := ⟨_, rfl⟩
  rw [hW2] at H2 F2 ⊢
  clear hW2 HB c2 f2 hb
  have d2 : W2.drew.cell? ⟨p, 2, none⟩ = some (.int .i64 (0)) := wrote_cell (w := W2) H2 2 _ rfl
  have d4 : W2.drew.cell? ⟨p, 4, none⟩ = some (.slice none 0 0) := wrote_cell (w := W2) H2 4 _ rfl
  have CL := Lib.hid (clone_any [] none 0 W2.drew (Rd.nil _ _) (fun _ => rfl) (by decide))
  have hwr : IntKind.i64.wrap 0 = 0 := by rw [IntKind.wrap_i64]; omega
  have hsz := F2.size
  go_still_tail 15, (by kernel_rfl)
  change wpList _ _ _ _ _ W2.drew
  go_wp2_with fail
  refine CL.out.mono ?_
  rintro e w5 ⟨A5, c5, rfl, ho5, hb5⟩
  go_wp2_with fail
  go_ret
  have hsz5 : W2.drew.heap.size = W2.heap.size := rfl
  have H5 := heap_fr (w := W2.drew) (w' := w5) H2 (Fr.of_below hb5 NoS) (fun x => x)
  refine ⟨A5, c5, rfl, own_base ho5 (fun j hj => by have := (ho5.lt j hj).1; omega), H5, F2.drew.trans (Fr.of_below hb5 _)⟩
end Go.Proofs.Ytlaomllgjiochaa
