/- hello: plain laws: what is laid is read as it was. -/
import Derived.Test.YtlepceajpgloeaaHlF
namespace Go.Proofs.Ytlepceajpgloeaa
open Go.RowKit

theorem hpiece_length (k : UInt8) (b : List UInt8) : (hpiece k b).length = 4 + b.length := by unfold hpiece hhead; simp; omega
theorem hnum_piece (k : UInt8) (b t : List UInt8) (hb : b.length ≤ 1000) : hnum (hpiece k b ++ t) = b.length := by
  have e : ∀ n, n ≤ 1000 → hnum (hhead k n) = n := by
    intro n hn
    unfold hnum hhead
    simp only [List.getD_cons_succ, List.getD_cons_zero, UInt8.toNat_ofNat']
    omega
  have e2 : hnum (hpiece k b ++ t) = hnum (hhead k b.length) := by unfold hpiece hhead hnum; rfl
  rw [e2, e _ hb]
theorem hkind_piece (k : UInt8) (b t : List UInt8) (hk : k = 1 ∨ k = 2 ∨ k = 20) (hb : b.length ≤ 1000) : hkind (hpiece k b ++ t) = ((k.toNat : Int), ((4 + b.length : Nat) : Int), 0) := by
  unfold hkind
  have h0 : (hpiece k b ++ t).getD 0 0 = k := rfl
  rw [if_neg (by rw [List.length_append, hpiece_length]; omega), h0, hnum_piece k b t hb, if_neg, if_neg (by omega)]
  rintro ⟨h1, h2, h3⟩
  rcases hk with h | h | h
  · exact h1 h
  · exact h2 h
  · exact h3 h
/-- A piece that is cut behind its head. -/
theorem hkind_cut (k : UInt8) (b : List UInt8) (hk : k = 1 ∨ k = 2 ∨ k = 20) (hb : b.length ≤ 1000) (j : Nat) (h4 : 4 ≤ j) : hkind ((hpiece k b).take j) = ((k.toNat : Int), ((4 + b.length : Nat) : Int), 0) := by
  obtain ⟨i, rfl⟩ : ∃ i, j = 4 + i := ⟨j - 4, by omega⟩
  have e : hkind ((hpiece k b).take (4 + i)) = hkind (hpiece k b ++ []) := by
    have hh : (hpiece k b).take (4 + i) = hhead k b.length ++ b.take i := by
      unfold hpiece; rw [List.take_append]
      have : (hhead k b.length).length = 4 := rfl
      rw [this, List.take_of_length_le (by rw [this]; omega), Nat.add_sub_cancel_left]
    rw [hh]
    unfold hkind
    have l1 : ¬ (hhead k b.length ++ b.take i).length < 4 := by rw [List.length_append]; show ¬ 4 + _ < 4; omega
    have l2 : ¬ (hpiece k b ++ []).length < 4 := by rw [List.length_append, hpiece_length]; omega
    rw [if_neg l1, if_neg l2]
    rfl
  rw [e, hkind_piece k b [] hk hb]
theorem hkind_short (l : List UInt8) (h : l.length < 4) : hkind l = (0, 0, 3) := by unfold hkind; rw [if_pos h]
theorem hbody_piece (k : UInt8) (b t : List UInt8) (ks : List Int) (hk : k = 1 ∨ k = 2 ∨ k = 20) (hb : b.length ≤ 1000) :
    hbody (hpiece k b ++ t) ks = if (ks.any fun x => decide ((k.toNat : Int) = x)) = false then (0, [], 6) else ((k.toNat : Int), b, 0) := by
  unfold hbody
  rw [hkind_piece k b t hk hb]
  simp only
  rw [if_neg (by simp)]
  by_cases h : (ks.any fun x => decide ((k.toNat : Int) = x)) = false
  · rw [if_pos h, if_pos h]
  · rw [if_neg h, if_neg h, if_neg (by rw [List.length_append, hpiece_length]; omega)]
    have e : ((hpiece k b ++ t).drop 4).take (((4 + b.length : Nat) : Int).toNat - 4) = b := by
      have : hpiece k b ++ t = hhead k b.length ++ (b ++ t) := by unfold hpiece; simp
      rw [this, Int.toNat_natCast, Nat.add_sub_cancel_left]
      have h4 : (hhead k b.length).length = 4 := rfl
      rw [show (hhead k b.length ++ (b ++ t)).drop 4 = b ++ t from rfl]
      exact List.take_left
    rw [e]
/-- A piece that is cut is too short. -/
theorem hbody_cut (k : UInt8) (b : List UInt8) (ks : List Int) (hk : k = 1 ∨ k = 2 ∨ k = 20) (hb : b.length ≤ 1000) (j : Nat) (hj : j < 4 + b.length) (hin : (ks.any fun x => decide ((k.toNat : Int) = x)) = true) :
    hbody ((hpiece k b).take j) ks = (0, [], 3) := by
  unfold hbody
  by_cases h4 : j < 4
  · rw [hkind_short _ (by rw [List.length_take]; omega)]
    rfl
  · rw [hkind_cut k b hk hb j (by omega)]
    simp only
    rw [if_neg (by simp), if_neg (by rw [hin]; simp), if_pos (by rw [List.length_take, hpiece_length]; omega)]

theorem hids_cons (i : List UInt8) (ids : List (List UInt8)) : hids (i :: ids) = 8 :: (i ++ hids ids) := by simp [hids]
theorem hgl_ids : ∀ (ids acc : List (List UInt8)), (∀ i ∈ ids, i.length = 8) → hgl ids.length (hids ids) acc = some (acc ++ ids)
  | [], acc, _ => by simp [hids, hgl]
  | i :: ids, acc, h => by
    have h8 := h i List.mem_cons_self
    rw [hids_cons]
    show hgl (ids.length + 1) _ _ = _
    rw [hgl, if_neg]
    · have e1 : (8 :: (i ++ hids ids)).drop 9 = hids ids := by
        rw [List.drop_succ_cons, List.drop_append, List.drop_of_length_le (by omega), h8]; rfl
      have e2 : ((8 :: (i ++ hids ids)).drop 1).take 8 = i := by
        rw [List.drop_succ_cons, List.drop_zero, List.take_append_of_le_length (by omega), List.take_of_length_le (by omega)]
      rw [e1, e2, hgl_ids ids _ (fun j hj => h j (List.mem_cons_of_mem _ hj))]
      simp
    · rintro (h1 | h1)
      · simp [h8] at h1; omega
      · exact h1 rfl
theorem hbod_length (r : List UInt8) (ids : List (List UInt8)) (hr : r.length = 32) (h : ∀ i ∈ ids, i.length = 8) : (hbod r ids).length = 33 + 9 * ids.length := by
  unfold hbod; rw [List.length_append, List.length_append, hr, hids_len ids h]; rfl
theorem hbod_32 (r : List UInt8) (ids : List (List UInt8)) (hr : r.length = 32) : (hbod r ids).getD 32 0 = UInt8.ofNat ids.length := by
  unfold hbod
  rw [List.append_assoc, List.getD_eq_getElem?_getD, List.getElem?_append_right (by omega), hr]
  rfl
theorem hbod_take (r : List UInt8) (ids : List (List UInt8)) (hr : r.length = 32) : (hbod r ids).take 32 = r := by
  unfold hbod
  rw [List.append_assoc, List.take_append_of_le_length (by omega), List.take_of_length_le (by omega)]
theorem hbod_drop (r : List UInt8) (ids : List (List UInt8)) (hr : r.length = 32) : (hbod r ids).drop 33 = hids ids := by
  unfold hbod
  rw [List.append_assoc, List.drop_append, List.drop_of_length_le (by omega), hr]; rfl
/-- What the body of a hello tells. -/
theorem hget_of_body (l : List UInt8) (k : Int) (r : List UInt8) (ids : List (List UInt8)) (hr : r.length = 32) (h : ∀ i ∈ ids, i.length = 8) (h1 : 1 ≤ ids.length) (h4 : ids.length ≤ 4) (hb : hbody l [1, 2] = (k, hbod r ids, 0)) :
    hget l = (⟨k == 2, r, ids⟩, ((37 + 9 * ids.length : Nat) : Int), 0) := by
  have hu : (UInt8.ofNat ids.length).toNat = ids.length := by rw [UInt8.toNat_ofNat']; omega
  unfold hget
  rw [hb]
  simp only
  rw [if_neg (by simp), if_neg (by rw [hbod_length r ids hr h]; omega), hbod_32 r ids hr, hu, if_neg (by omega), hbod_take r ids hr, hbod_drop r ids hr, hgl_ids ids [] h, hbod_length r ids hr h]
  unfold hfin
  simp only [List.nil_append]
  congr 2
  omega
theorem hput_ok (s : Bool) (r : List UInt8) (ids : List (List UInt8)) (h : ∀ i ∈ ids, i.length = 8) (h1 : 1 ≤ ids.length) (h4 : ids.length ≤ 4) : hput s r ids = (hpiece (if s then 2 else 1) (hbod r ids), 0) := by
  unfold hput
  rw [if_neg (by omega), if_pos (List.all_eq_true.2 (fun i hi => decide_eq_true (h i hi)))]
theorem hget_piece (s : Bool) (r : List UInt8) (ids : List (List UInt8)) (t : List UInt8) (hr : r.length = 32) (h : ∀ i ∈ ids, i.length = 8) (h1 : 1 ≤ ids.length) (h4 : ids.length ≤ 4) :
    hget (hpiece (if s then 2 else 1) (hbod r ids) ++ t) = (⟨s, r, ids⟩, ((37 + 9 * ids.length : Nat) : Int), 0) := by
  have hb := hbod_length r ids hr h
  cases s
  · exact hget_of_body _ 1 r ids hr h h1 h4 (by rw [if_neg (by simp), hbody_piece 1 _ t [1, 2] (.inl rfl) (by omega)]; rfl)
  · exact hget_of_body _ 2 r ids hr h h1 h4 (by rw [if_pos rfl, hbody_piece 2 _ t [1, 2] (.inr (.inl rfl)) (by omega)]; rfl)
theorem hget_cut (s : Bool) (r : List UInt8) (ids : List (List UInt8)) (hr : r.length = 32) (h : ∀ i ∈ ids, i.length = 8) (h4 : ids.length ≤ 4) (j : Nat) (hj : j < 37 + 9 * ids.length) :
    hget ((hpiece (if s then 2 else 1) (hbod r ids)).take j) = (hzero, 0, 3) := by
  have hb := hbod_length r ids hr h
  have e : hbody ((hpiece (if s then 2 else 1) (hbod r ids)).take j) [1, 2] = (0, [], 3) := by
    cases s
    · exact hbody_cut _ _ _ (.inl rfl) (by omega) j (by omega) rfl
    · exact hbody_cut _ _ _ (.inr (.inl rfl)) (by omega) j (by omega) rfl
  unfold hget
  rw [e]
  rfl
theorem hget_wrong (l : List UInt8) (h : hbody l [1, 2] = (0, [], 6)) : hget l = (hzero, 0, 6) := by unfold hget; rw [h]; rfl
theorem hget_kind20 (b t : List UInt8) (hb : b.length ≤ 1000) : hget (hpiece 20 b ++ t) = (hzero, 0, 6) :=
  hget_wrong _ (by rw [hbody_piece 20 b t [1, 2] (.inr (.inr rfl)) hb]; rfl)
theorem hget_other (k : UInt8) (r : List UInt8) (ids : List (List UInt8)) (hr : r.length = 32) (h : ∀ i ∈ ids, i.length = 8) (h1 : 1 ≤ ids.length) (h4 : ids.length ≤ 4) (t : List UInt8) (h5 : k ≠ 1) (h6 : k ≠ 2) : hget (hpiece k (hbod r ids) ++ t) = (hzero, 0, 6) := by
  have hb := hbod_length r ids hr h
  by_cases h20 : k = 20
  · subst h20; exact hget_kind20 _ t (by omega)
  · refine hget_wrong _ ?_
    have hk : hkind (hpiece k (hbod r ids) ++ t) = (0, 0, 6) := by
      unfold hkind
      rw [if_neg (by rw [List.length_append, hpiece_length]; omega), if_pos ⟨h5, h6, h20⟩]
    unfold hbody
    rw [hk]; rfl
theorem hfinr_piece (r t : List UInt8) (hr : r.length = 32) : hfinr (hpiece 20 r ++ t) = (r, 36, 0) := by
  have e : hbody (hpiece 20 r ++ t) [20] = (20, r, 0) := by
    rw [hbody_piece 20 r t [20] (.inr (.inr rfl)) (by omega)]
    exact if_neg (by decide)
  unfold hfinr
  rw [e]
  simp only
  rw [if_neg (by simp), if_neg (by rw [hr]; simp)]
theorem hfinr_hello (s : Bool) (r : List UInt8) (ids : List (List UInt8)) (t : List UInt8) (hr : r.length = 32) (h : ∀ i ∈ ids, i.length = 8) (h4 : ids.length ≤ 4) : hfinr (hpiece (if s then 2 else 1) (hbod r ids) ++ t) = (List.replicate 32 0, 0, 6) := by
  have hb := hbod_length r ids hr h
  have e : hbody (hpiece (if s then 2 else 1) (hbod r ids) ++ t) [20] = (0, [], 6) := by
    cases s
    · exact (hbody_piece 1 _ t [20] (.inl rfl) (by omega)).trans rfl
    · exact (hbody_piece 2 _ t [20] (.inr (.inl rfl)) (by omega)).trans rfl
  unfold hfinr
  rw [e]; rfl
theorem hpiece_set0 (k k2 : UInt8) (b : List UInt8) : (hpiece k b).set 0 k2 = hpiece k2 b := rfl
theorem hpiece_set (k : UInt8) (b : List UInt8) (i : Nat) (v : UInt8) : (hpiece k b).set (4 + i) v = hpiece k (b.set i v) := by
  unfold hpiece
  rw [List.length_set, List.set_append_right _ _ (by show 4 ≤ 4 + i; omega)]
  rw [show (hhead k b.length).length = 4 from rfl, Nat.add_sub_cancel_left]
theorem hget_d37 (r : List UInt8) (ids : List (List UInt8)) (hr : r.length = 32) (h : ∀ i ∈ ids, i.length = 8) (h1 : 1 ≤ ids.length) (h4 : ids.length ≤ 4) : hget ((hpiece 1 (hbod r ids)).set 37 9) = (hzero, 0, 5) := by
  have hb := hbod_length r ids hr h
  have hu : (UInt8.ofNat ids.length).toNat = ids.length := by rw [UInt8.toNat_ofNat']; omega
  have e : (hpiece 1 (hbod r ids)).set 37 9 = hpiece 1 ((hbod r ids).set 33 9) ++ [] := by rw [List.append_nil]; exact hpiece_set 1 _ 33 9
  have hd : ((hbod r ids).set 33 9).drop 33 = 9 :: (hids ids).drop 1 := by
    rw [List.drop_set, if_neg (by omega), hbod_drop r ids hr, Nat.sub_self]
    obtain ⟨i, l, rfl⟩ : ∃ i l, ids = i :: l := by
      cases ids with
      | nil => simp at h1
      | cons i l => exact ⟨i, l, rfl⟩
    rw [hids_cons]; rfl
  have h32 : ((hbod r ids).set 33 9).getD 32 0 = UInt8.ofNat ids.length := by
    rw [List.getD_eq_getElem?_getD, List.getElem?_set_ne (by omega), ← List.getD_eq_getElem?_getD, hbod_32 r ids hr]
  have e2 : hbody (hpiece 1 ((hbod r ids).set 33 9) ++ []) [1, 2] = (1, (hbod r ids).set 33 9, 0) := by
    rw [hbody_piece 1 _ [] [1, 2] (.inl rfl) (by rw [List.length_set]; omega)]
    exact if_neg (by decide)
  unfold hget
  rw [e, e2]
  simp only
  rw [if_neg (by simp), if_neg (by rw [List.length_set]; omega), h32, hu, if_neg (by omega), hd]
  obtain ⟨m, hm⟩ : ∃ m, ids.length = m + 1 := ⟨ids.length - 1, by omega⟩
  rw [hm, hgl, if_pos (.inr (by simp))]
  rfl
theorem hkind_long (l : List UInt8) (x y z : UInt8) (hl : 4 ≤ l.length) (h0 : l.getD 0 0 = 1) (h : 1000 < x.toNat * 65536 + y.toNat * 256 + z.toNat) : hkind (((l.set 1 x).set 2 y).set 3 z) = (0, 0, 4) := by
  rcases l with _ | ⟨a, _ | ⟨b, _ | ⟨c, _ | ⟨d, t⟩⟩⟩⟩ <;> simp at hl
  simp at h0
  subst h0
  unfold hkind
  rw [if_neg (by simp), if_neg (by simp)]
  rw [if_pos]
  exact h
end Go.Proofs.Ytlepceajpgloeaa
