/- The document's Flight: Came. -/
import Derived.Test.YtifigmhecgbfoaaFrC
namespace Go.Proofs.Ytifigmhecgbfoaa
open Go.RowKit

def rbadP (P : List Pr) (r : Rg) : Bool := decide (r.hi < r.lo) || (P.isEmpty || decide ((plast P).1 < r.hi))
def rtop (top : Nat) (rs : List Rg) : Nat := rs.foldl (fun m r => max m r.hi) top
theorem rtop_take (top : Nat) (rs : List Rg) (k : Nat) (r : Rg) (h : rs[k]? = some r) : rtop top (rs.take (k + 1)) = max (rtop top (rs.take k)) r.hi := by
  obtain ⟨hk, e⟩ := List.getElem?_eq_some_iff.1 h
  rw [List.take_succ_eq_append_getElem hk, e]; simp [rtop]
/-- Where a packet stands when so many ranges were looked at. -/
def inq (rs : List Rg) (i : Nat) : Pk → Bool := qcame (rs.take i)
theorem inq_zero (rs : List Rg) (y : Pk) : inq rs 0 y = false := by simp [inq, qcame]
theorem inq_all (rs : List Rg) : inq rs rs.length = qcame rs := by simp [inq]
theorem inq_succ (rs : List Rg) (i : Nat) (r : Rg) (h : rs[i]? = some r) (y : Pk) : inq rs (i + 1) y = (inq rs i y || r.has y.num) := by
  obtain ⟨hk, e⟩ := List.getElem?_eq_some_iff.1 h
  unfold inq qcame
  rw [List.take_succ_eq_append_getElem hk, e]; simp
theorem pupd_set (q : Pk → Bool) (P : List Pr) {k : Nat} {x : Pr} (h : P[k]? = some x) : pupd q P (k + 1) = (pupd q P k).set k (pu q x) ∧ pnums q P (k + 1) = pnums q P k ++ if x.un && q x.pk then [x.num] else [] := by
  cases hq : x.un && q x.pk
  · obtain ⟨h1, h2⟩ := pupd_no q P h hq
    have hk := (List.getElem?_eq_some_iff.1 h).1
    have hg := pupd_get q P hk
    rw [h] at hg
    have hx : pu q x = x := by simp [pu, hq]
    rw [h1, h2, hx]
    refine ⟨?_, by simp⟩
    obtain ⟨hk2, e⟩ := List.getElem?_eq_some_iff.1 hg
    rw [← e, List.set_getElem_self]
  · obtain ⟨h1, h2⟩ := pupd_yes q P h hq
    have hx : pu q x = x.off := by simp [pu, hq]
    rw [h1, h2, hx]
    exact ⟨rfl, by simp⟩
def inP (rs : List Rg) (P : List Pr) (k : Nat) (x : Pr) (i : Nat) : List Pr := (pupd (qcame rs) P k).set k (pu (inq rs i) x)
def inN (rs : List Rg) (P : List Pr) (k : Nat) (x : Pr) (i : Nat) : List Nat := pnums (qcame rs) P k ++ if x.un && inq rs i x.pk then [x.num] else []
section
variable (rs : List Rg) (P : List Pr) {k : Nat} {x : Pr} (h : P[k]? = some x)
include h
theorem in_get (i : Nat) : (inP rs P k x i)[k]? = some (pu (inq rs i) x) := by
  unfold inP
  rw [List.getElem?_set_self (by rw [pupd_len]; exact (List.getElem?_eq_some_iff.1 h).1)]
theorem in_zero : inP rs P k x 0 = pupd (qcame rs) P k ∧ inN rs P k x 0 = pnums (qcame rs) P k := by
  have hk := (List.getElem?_eq_some_iff.1 h).1
  have hg := pupd_get (qcame rs) P hk
  rw [h] at hg
  unfold inP inN
  have hx : pu (inq rs 0) x = x := by simp [pu, inq_zero]
  rw [hx, inq_zero]
  obtain ⟨hk2, e⟩ := List.getElem?_eq_some_iff.1 hg
  exact ⟨by rw [← e, List.set_getElem_self], by simp⟩
theorem in_all : inP rs P k x rs.length = pupd (qcame rs) P (k + 1) ∧ inN rs P k x rs.length = pnums (qcame rs) P (k + 1) := by
  obtain ⟨h1, h2⟩ := pupd_set (qcame rs) P h
  unfold inP inN
  rw [inq_all, h1, h2]
  exact ⟨rfl, rfl⟩
omit h
theorem in_no {i : Nat} {r : Rg} (hr : rs[i]? = some r) (hn : ((pu (inq rs i) x).un && r.has x.num) = false) : inP rs P k x (i + 1) = inP rs P k x i ∧ inN rs P k x (i + 1) = inN rs P k x i := by
  have e : (x.un && inq rs (i + 1) x.pk) = (x.un && inq rs i x.pk) := by
    rw [inq_succ rs i r hr]
    cases hu : x.un
    · rfl
    · cases hq : inq rs i x.pk
      · simp [pu, hu, hq] at hn
        simp [Pr.pk, hn]
      · rfl
  have e2 : pu (inq rs (i + 1)) x = pu (inq rs i) x := by unfold pu; rw [e]
  unfold inP inN
  rw [e, e2]
  exact ⟨rfl, rfl⟩
theorem in_yes {i : Nat} {r : Rg} (hr : rs[i]? = some r) (hn : ((pu (inq rs i) x).un && r.has x.num) = true) : inP rs P k x (i + 1) = (inP rs P k x i).set k (pu (inq rs i) x).off ∧ inN rs P k x (i + 1) = inN rs P k x i ++ [x.num] ∧ (pu (inq rs i) x).num = x.num := by
  rw [Bool.and_eq_true] at hn
  obtain ⟨h1, h2⟩ := hn
  have h3 : x.un = true ∧ inq rs i x.pk = false := by
    unfold pu at h1
    cases hu : x.un
    · simp [hu] at h1
    · cases hq : inq rs i x.pk
      · exact ⟨rfl, rfl⟩
      · simp [hu, hq, Pr.off] at h1
  have h4 : inq rs (i + 1) x.pk = true := by rw [inq_succ rs i r hr, show x.pk.num = x.num from rfl, h2]; simp
  have e1 : pu (inq rs i) x = x := by simp [pu, h3.2]
  have e2 : pu (inq rs (i + 1)) x = x.off := by simp [pu, h3.1, h4]
  unfold inP inN
  rw [e1, e2, h3.1, h3.2, h4]
  refine ⟨?_, by simp, rfl⟩
  rw [List.set_set]
end

section
variable {w w' : World} {p : Nat} {A : Option Addr} {c top : Nat} {P : List Pr} {heard : Bool}
/-- What the test of a range reads. -/
theorem bad_split (P : List Pr) (y : Rg) : rbadP P y = (decide ((y.hi : Int) < (y.lo : Int)) || (P.isEmpty || decide (((plast P).1 : Int) < (y.hi : Int)))) := by
  unfold rbadP
  congr 1
  · by_cases h : y.hi < y.lo
    · rw [decide_eq_true h, decide_eq_true (by omega)]
    · rw [decide_eq_false h, decide_eq_false (by omega)]
  · congr 1
    by_cases h : (plast P).1 < y.hi
    · rw [decide_eq_true h, decide_eq_true (by omega)]
    · rw [decide_eq_false h, decide_eq_false (by omega)]
/-- The last packet's number, in memory. -/
theorem IsRf.lastc (h : IsRf w p A c P top heard) (hne : P.isEmpty = false) : ∃ g k, A = some ⟨g, 0, none⟩ ∧ (P.length : Int) - 1 = (k : Nat) ∧ k < P.length ∧ P.length ≤ c ∧ c ≤ 9223372036854775807 ∧ w.cell? ⟨g, k * 4, none⟩ = some (.int .u64 (plast P).1) := by
  rcases snoc_cases P with rfl | ⟨P', x, rfl⟩
  · cases hne
  · obtain ⟨g, hA, _, _, h1, h2, h3, _⟩ := h.elt (k := P'.length) (by simp)
    refine ⟨g, P'.length, hA, by simp, by simp, h1, h2, ?_⟩
    rw [plast_snoc]
    simpa using h3

set_option maxRecDepth 100000 in
set_option maxHeartbeats 8000000 in
theorem rcame_no (h : IsRf w p A c P top heard) (rs : List Rg) (R : Option Addr) (cr : Nat) (hr : Rd w R (rgv rs)) (hl : rs.length ≤ 1000000) (hbad : rs.any (rbadP P) = true) :
    Calls Try.prog 18 #[.pointer (some ⟨p, 0, none⟩), .slice R rs.length cr] w fun e w' => e = .returned (.tuple #[.slice none 0 0, .bool false]) ∧ Below w.heap.size w w' := by
  have c0 := wrote_cell h.cell 0 _ rfl
  have hs := h.small
  have HB := Lib.hid hbad
  have HR := Lib.hid hr
  have HL : Hid (∀ hne : P.isEmpty = false, _) := Lib.hid (fun hne => h.lastc hne)
  have hem : P.isEmpty = true → (P.length : Int) = 0 := fun e => by simp at e; rw [e]; rfl
  have hem2 : P.isEmpty = false → (0 : Int) < P.length := fun e => by
    cases P with
    | nil => cases e
    | cons a l => simp
  have HS := Lib.hid (bad_split P)
  obtain ⟨la, hla⟩ : ∃ x : Int, ((plast P).1 : Int) = x := ⟨_, rfl⟩
  obtain ⟨em, he⟩ : ∃ x, P.isEmpty = x := ⟨_, rfl⟩
  obtain ⟨m, hm⟩ : ∃ x, P.length = x := ⟨_, rfl⟩
  rw [hla, he] at HS
  rw [he, hla, hm] at HL
  rw [he, hm] at hem hem2
  rw [hm] at c0 hs
  replace hm := Lib.hid hm
  replace hem := Lib.hid hem
  replace hem2 := Lib.hid hem2
  clear hbad h hr hla he
  go_enter Try.func18, Try.ntmps18
  go_wp2_with fail
  go_loopw [6] (fun i wr => ∃ k mm : Nat, k ≤ rs.length ∧ i = .int .i64 k ∧ Hid (∀ j, j < k → ∀ y, rs[j]? = some y → rbadP P y = false) ∧ wr = w.drewN mm) (fun i _ => rs.length - (intOf i).toNat)
  case atStart => exact ⟨0, 0, by omega, rfl, Lib.hid (fun j hj => absurd hj (by omega)), rfl⟩
  case round =>
    obtain ⟨k, mm, hk, rfl, HT, rfl⟩ := hrel
    by_cases hkl : k < rs.length
    · obtain ⟨b, off, rfl, l0, l1⟩ := load_rg HR.out hkl
      obtain ⟨y, hy⟩ : ∃ y, rs[k] = y := ⟨_, rfl⟩
      have hy' : Hid (rs[k]? = some y) := Lib.hid (by rw [List.getElem?_eq_getElem hkl, hy])
      rw [hy] at l0 l1
      have hsp := HS.out y
      have HT2 : Hid (rbadP P y = false → ∀ j, j < k + 1 → ∀ y, rs[j]? = some y → rbadP P y = false) := Lib.hid (fun hf j hj z hz => by
        by_cases e : j = k
        · subst e; rw [hy'.out] at hz; injection hz with hz; subst hz; exact hf
        · exact HT.out j (by omega) z hz)
      obtain ⟨lo, hlo⟩ : ∃ x : Int, (y.lo : Int) = x := ⟨_, rfl⟩
      obtain ⟨hi, hhi⟩ : ∃ x : Int, (y.hi : Int) = x := ⟨_, rfl⟩
      rw [hlo] at l0 hsp
      rw [hhi] at l1 hsp
      obtain ⟨b1, hb1⟩ : ∃ b, decide (hi < lo) = b := ⟨_, rfl⟩
      obtain ⟨b3, hb3⟩ : ∃ b, decide (la < hi) = b := ⟨_, rfl⟩
      rw [hb1, hb3] at hsp
      replace hsp := Lib.hid hsp
      clear hy HB hlo hhi HT
      cases b1
      · cases em
        · obtain ⟨g, kl, rfl, hkl2, hkm, hc1, hc2, g0⟩ := HL.out rfl
          have hm0 := hem2.out rfl
          have hme : ((m : Int) == 0) = false := beq_eq_false_iff_ne.2 (by omega)
          cases b3
          · rename_i aa; clear aa
            have HT3 := Lib.hid (HT2.out hsp.out)
            go_wp2_with fail
            go_big_quiet (fail)
            go_wp2_with fail
            go_roundw
            case rel => exact ⟨k + 1, _, by omega, by go_num, HT3, rfl⟩
            case measure => simp [intOf]; omega
          · go_wp2_with fail
            go_big_quiet (fail)
            go_wp2_with fail
            go_ret2
            exact ⟨rfl, ((Still.drewN w _).trans (Still.drewN _ _)).below⟩
        · have hm0 := hem.out rfl
          have hme : ((m : Int) == 0) = true := beq_iff_eq.2 hm0
          go_wp2_with fail
          go_big_quiet (fail)
          go_wp2_with fail
          go_ret2
          exact ⟨rfl, ((Still.drewN w _).trans (Still.drewN _ _)).below⟩
      · go_wp2_with fail
        go_big_quiet (fail)
        go_wp2_with fail
        go_ret2
        exact ⟨rfl, ((Still.drewN w _).trans (Still.drewN _ _)).below⟩
    · exfalso
      have h1 := HB.out
      rw [List.any_eq_true] at h1
      obtain ⟨x, hx, hb⟩ := h1
      obtain ⟨j, hj, rfl⟩ := List.getElem_of_mem hx
      rw [HT.out j (by omega) _ (List.getElem?_eq_getElem hj)] at hb
      cases hb

theorem rtop_ok (top : Nat) (rs : List Rg) (ht : top ≤ 4611686018427387903) (h : ∀ y ∈ rs, y.hi ≤ 4611686018427387903) : rtop top rs ≤ 4611686018427387903 := by
  induction rs generalizing top with
  | nil => exact ht
  | cons y rs ih => exact ih (max top y.hi) (by have := h y List.mem_cons_self; omega) (fun z hz => h z (List.mem_cons_of_mem _ hz))
theorem plast_ok (h : ∀ x ∈ P, x.ok) : (plast P).1 ≤ 4611686018427387903 := by
  rcases snoc_cases P with rfl | ⟨P', x, rfl⟩
  · simp [plast]
  · rw [plast_snoc]; exact (h x (by simp)).1
/-- A range is heard. -/
theorem IsRf.hear (h : IsRf w p A c P top heard) (M : Nat) (hM : M ≤ 4611686018427387903) : IsRf ((w.setCell ⟨p, 1, none⟩ (.int .u64 M)).setCell ⟨p, 2, none⟩ (.bool true)) p A c P M true ∧ Fr (OnFl p A) w ((w.setCell ⟨p, 1, none⟩ (.int .u64 M)).setCell ⟨p, 2, none⟩ (.bool true)) := by
  have f : Fr (fun k => k = p) w ((w.setCell ⟨p, 1, none⟩ (.int .u64 M)).setCell ⟨p, 2, none⟩ (.bool true)) := ((Fr.refl (fun k => k = p) w).setCell (p := ⟨p, 1, none⟩) (fun _ => rfl) _).setCell (p := ⟨p, 2, none⟩) (fun _ => rfl) _
  exact ⟨⟨heap_setCell_same _ p 2 _ _ (.bool true) (heap_setCell_same _ p 1 _ _ (.int .u64 M) h.cell), own_fr h.row f (fun k hk e => by
    obtain ⟨a, ha, rfl⟩ := own_some hk
    exact h.ne a ha e), h.small, h.oks, hM⟩, f.mono (fun k hk _ => .inl hk)⟩

set_option maxRecDepth 100000 in
set_option maxHeartbeats 16000000 in
theorem rcame_yes (h : IsRf w p A c P top heard) (rs : List Rg) (R : Option Addr) (cr : Nat) (hr : Rd w R (rgv rs)) (hRA : 0 < rs.length → ∀ a, R = some a → ¬ OnFl p A a.block) (hl : rs.length ≤ 1000000) (hgood : rs.any (rbadP P) = false) (n : Nat) (hn : (pnums (qcame rs) P P.length).length = n) :
    Calls Try.prog 18 #[.pointer (some ⟨p, 0, none⟩), .slice R rs.length cr] w fun e w' => ∃ Ao co, e = .returned (.tuple #[.slice Ao n co, .bool true]) ∧ RTellPost p A c (pupd (qcame rs) P P.length) (pnums (qcame rs) P P.length) n (rtop top rs) (heard || !rs.isEmpty) w Ao co w' := by
  have c0 := wrote_cell h.cell 0 _ rfl
  have hs := h.small
  have HG : Hid (∀ j y, rs[j]? = some y → rbadP P y = false) := Lib.hid (fun j y hy => by
    rw [List.any_eq_false] at hgood
    simpa using hgood y (List.mem_of_getElem? hy))
  have h0 : Hid (∀ j, OnFl p A j → j < w.heap.size) := Lib.hid (fun j hj => h.blk hj)
  have hhi : Hid (∀ y ∈ rs, y.hi ≤ 4611686018427387903) := Lib.hid (fun y hy => by
    obtain ⟨j, hj, rfl⟩ := List.getElem_of_mem hy
    have h1 := HG.out j _ (List.getElem?_eq_getElem hj)
    have h2 := plast_ok h.oks
    unfold rbadP at h1
    simp at h1
    omega)
  have H := Lib.hid h
  have HR := Lib.hid hr
  have hRA2 : 0 < (rgv rs).length → ∀ a, R = some a → ¬ OnFl p A a.block := fun hn => hRA (by simp at hn; omega)
  replace hRA2 := Lib.hid hRA2
  have htop := Lib.hid h.top
  have HL : Hid (∀ hne : P.isEmpty = false, _) := Lib.hid (fun hne => h.lastc hne)
  have hem2 : P.isEmpty = false → (0 : Int) < P.length := fun e => by
    cases P with
    | nil => cases e
    | cons a l => simp
  obtain ⟨m, hm⟩ : ∃ x, P.length = x := ⟨_, rfl⟩
  rw [hm] at HL hem2 c0 hs hn ⊢
  replace hm := Lib.hid hm
  replace hn := Lib.hid hn
  replace hem2 := Lib.hid hem2
  obtain ⟨tN, htN⟩ : ∃ t, rtop top rs = t := ⟨_, rfl⟩
  obtain ⟨hN, hhN⟩ : ∃ t, (heard || !rs.isEmpty) = t := ⟨_, rfl⟩
  rw [htN, hhN]
  replace htN := Lib.hid htN
  replace hhN := Lib.hid hhN
  clear hgood h hr hRA
  go_enter Try.func18, Try.ntmps18
  go_wp2_with fail
  go_loopw [6] (fun i wr => ∃ k mm : Nat, k ≤ rs.length ∧ i = .int .i64 k ∧ wr = w.drewN mm) (fun i _ => rs.length - (intOf i).toNat)
  case atStart => exact ⟨0, 0, by omega, rfl, rfl⟩
  case round =>
    obtain ⟨k, mm, hk, rfl, rfl⟩ := hrel
    by_cases hkl : k < rs.length
    · rename_i aa; clear aa
      obtain ⟨b, off, rfl, l0, l1⟩ := load_rg HR.out hkl
      have hgd := HG.out k _ (List.getElem?_eq_getElem hkl)
      obtain ⟨y, hy⟩ : ∃ y, rs[k] = y := ⟨_, rfl⟩
      rw [hy] at l0 l1 hgd
      have hem : P.isEmpty = false := by unfold rbadP at hgd; simp at hgd; simpa using hgd.2.1
      have hlt : (plast P).1 ≥ y.hi ∧ y.hi ≥ y.lo := by unfold rbadP at hgd; simp at hgd; omega
      obtain ⟨g, kl, rfl, hkl2, hkm, hc1, hc2, g0⟩ := HL.out hem
      have hm0 := hem2.out hem
      obtain ⟨lo, hlo⟩ : ∃ x : Int, (y.lo : Int) = x := ⟨_, rfl⟩
      obtain ⟨hi, hhi⟩ : ∃ x : Int, (y.hi : Int) = x := ⟨_, rfl⟩
      obtain ⟨la, hla⟩ : ∃ x : Int, ((plast P).1 : Int) = x := ⟨_, rfl⟩
      rw [hlo] at l0
      rw [hhi] at l1
      rw [hla] at g0
      have hb1 : decide (hi < lo) = false := decide_eq_false (by omega)
      have hb3 : decide (la < hi) = false := decide_eq_false (by omega)
      have hme : ((m : Int) == 0) = false := beq_eq_false_iff_ne.2 (by omega)
      clear hy hlo hhi hla hlt hgd hem
      go_wp2_with fail
      go_big_quiet (fail)
      go_wp2_with fail
      go_roundw
      case rel => exact ⟨k + 1, _, by omega, by go_num, rfl⟩
      case measure => simp [intOf]; omega
    · clear HG HL hem2
      have HST : Hid (IsRf (w.drewN mm) p A c P (rtop top (rs.take 0)) (heard || !(rs.take 0).isEmpty) ∧ Fr (OnFl p A) w (w.drewN mm)) := Lib.hid ⟨by simpa [rtop] using H.out.drewN mm, (Fr.refl _ w).drewN mm⟩
      go_wp2_with fail
      go_loopw [8] (fun i wr => ∃ k : Nat, k ≤ rs.length ∧ i = .int .i64 k ∧ Hid (IsRf wr p A c P (rtop top (rs.take k)) (heard || !(rs.take k).isEmpty) ∧ Fr (OnFl p A) w wr)) (fun i _ => rs.length - (intOf i).toNat)
      case atStart => exact ⟨0, by omega, rfl, HST⟩
      case round =>
        clear HST
        obtain ⟨k, hk, rfl, HS⟩ := hrel
        by_cases hkl : k < rs.length
        · rename_i aa; clear aa
          obtain ⟨b, off, rfl, l0, l1⟩ := load_rg (HR.out.fr HS.out.2 hRA2.out) hkl
          have hrt := rtop_take top rs k _ (List.getElem?_eq_getElem hkl)
          have hok : rtop top (rs.take (k + 1)) ≤ 4611686018427387903 := rtop_ok _ _ htop.out (fun y hy => hhi.out y (List.mem_of_mem_take hy))
          have hne : (rs.take (k + 1)).isEmpty = false := by
            cases rs with
            | nil => simp at hkl
            | cons a l => rfl
          obtain ⟨M, hM⟩ : ∃ M, rtop top (rs.take (k + 1)) = M := ⟨_, rfl⟩
          obtain ⟨tk, htk⟩ : ∃ M, rtop top (rs.take k) = M := ⟨_, rfl⟩
          obtain ⟨hk2, hhk⟩ : ∃ M, (heard || !(rs.take k).isEmpty) = M := ⟨_, rfl⟩
          rw [hM] at hok hrt
          rw [htk] at hrt
          rw [htk, hhk] at HS
          obtain ⟨y, hy⟩ : ∃ y, rs[k] = y := ⟨_, rfl⟩
          rw [hy] at l0 l1 hrt
          have HM := fun (ts : Array TypeId) (t : TypeId) (w : World) => run_max2u (P := Try.prog) tk y.hi M (by omega) ts t w
          have c1 := wrote_cell HS.out.1.cell 1 _ rfl
          have c2 := wrote_cell HS.out.1.cell 2 _ rfl
          have f1 := frozen_of_row _ p 1 _ _ HS.out.1.cell
          have f2 := frozen_of_row _ p 2 _ _ HS.out.1.cell
          have HN : Hid (IsRf ((wr.setCell ⟨p, 1, none⟩ (.int .u64 M)).setCell ⟨p, 2, none⟩ (.bool true)) p A c P (rtop top (rs.take (k + 1))) (heard || !(rs.take (k + 1)).isEmpty) ∧ Fr (OnFl p A) w ((wr.setCell ⟨p, 1, none⟩ (.int .u64 M)).setCell ⟨p, 2, none⟩ (.bool true))) := Lib.hid (by
            rw [hM, hne]
            simp only [Bool.not_false, Bool.or_true]
            obtain ⟨q1, q2⟩ := HS.out.1.hear M hok
            exact ⟨q1, HS.out.2.trans q2⟩)
          obtain ⟨hi, hhi'⟩ : ∃ x : Int, (y.hi : Int) = x := ⟨_, rfl⟩
          rw [hhi'] at l1 HM
          clear hrt hok hne hM htk hhk hy hhi' HS
          go_wp2_with fail
          go_region
          go_wp2_with fail
          go_roundw
          case rel => exact ⟨k + 1, by omega, by go_num, Lib.hid ⟨HN.out.1.drewN 1, HN.out.2.drewN 1⟩⟩
          case measure => simp [intOf]; omega
        · obtain rfl : k = rs.length := by omega
          clear c0
          rw [List.take_length] at HS
          rw [htN.out, hhN.out] at HS
          have HST : Hid (RLk w p A c (pupd (qcame rs) P 0) (pnums (qcame rs) P 0) 0 tN hN wr none 0) := Lib.hid ⟨by rw [pupd_zero]; exact HS.out.1, by simp [pnums, nv]; exact World.ownsRow_nil _ _ _ _, HS.out.2⟩
          clear HS
          go_wp2_with fail
          go_loopw [7, 9] (fun s i wr => ∃ (k j : Nat) (Ao : Option Addr) (co : Nat), k ≤ m ∧ j ≤ k ∧ i = .int .i64 k ∧ s = .slice Ao j co ∧ Hid (RLk w p A c (pupd (qcame rs) P k) (pnums (qcame rs) P k) j tN hN wr Ao co ∧ (pnums (qcame rs) P k).length = j)) (fun _ i _ => m - (intOf i).toNat)
          case atStart => exact ⟨0, 0, none, 0, by omega, by omega, rfl, rfl, Lib.hid ⟨HST.out, by simp [pnums]⟩⟩
          case round =>
            clear HST
            obtain ⟨k, j, Ao, co, hk, hj, rfl, rfl, HS⟩ := hrel
            have c0 := wrote_cell HS.out.1.rf.cell 0 _ rfl
            rw [pupd_len, hm.out] at c0
            by_cases hkm : k < m
            · rename_i aa; clear aa
              have hkP : k < P.length := by rw [hm.out]; exact hkm
              obtain ⟨x, hx⟩ : ∃ x, P[k]? = some x := ⟨_, List.getElem?_eq_getElem hkP⟩
              have hz := in_zero rs P hx
              have HST : Hid (RLk w p A c (inP rs P k x 0) (inN rs P k x 0) j tN hN wr Ao co ∧ (inN rs P k x 0).length = j) := Lib.hid (by rw [hz.1, hz.2]; exact HS.out)
              replace hx := Lib.hid hx
              clear HS hz
              go_wp2_with fail
              go_loopw [7, 10] (fun s i wr => ∃ (i' j : Nat) (Ao : Option Addr) (co : Nat), i' ≤ rs.length ∧ j ≤ k + 1 ∧ i = .int .i64 i' ∧ s = .slice Ao j co ∧ Hid (RLk w p A c (inP rs P k x i') (inN rs P k x i') j tN hN wr Ao co ∧ (inN rs P k x i').length = j)) (fun _ i _ => rs.length - (intOf i).toNat)
              case atStart => exact ⟨0, j, Ao, co, by omega, by omega, rfl, rfl, HST⟩
              case round =>
                clear HST c0
                obtain ⟨i, j, Ao, co, hi, hj, rfl, rfl, HS⟩ := hrel
                by_cases hil : i < rs.length
                · rename_i aa; clear aa
                  have c0 := wrote_cell HS.out.1.rf.cell 0 _ rfl
                  have hkP : k < P.length := by rw [hm.out]; exact hkm
                  have hlen : (inP rs P k x i).length = m := by unfold inP; rw [List.length_set, pupd_len, hm.out]
                  rw [hlen] at c0
                  obtain ⟨b, off, rfl, l0, l1⟩ := load_rg (HR.out.fr HS.out.1.fr hRA2.out) hil
                  obtain ⟨g, rfl, hpg, _, hc1, hc2, g0, g1, g2, g3⟩ := HS.out.1.rf.elt (k := k) (by rw [hlen]; exact hkm)
                  rw [hlen] at hc1
                  have hx1 := in_get rs P hx.out i
                  have hxe : (inP rs P k x i)[k]'(by rw [hlen]; exact hkm) = pu (inq rs i) x := by
                    rw [List.getElem?_eq_getElem (by rw [hlen]; exact hkm)] at hx1
                    injection hx1
                  rw [hxe] at g0 g3
                  have hnum : (pu (inq rs i) x).num = x.num := by unfold pu; split <;> rfl
                  rw [hnum] at g0
                  have hri := List.getElem?_eq_getElem hil
                  obtain ⟨y, hy⟩ : ∃ y, rs[i] = y := ⟨_, rfl⟩
                  rw [hy] at l0 l1 hri
                  have HZ := Lib.hid (fun mm => ((HS.out.1.drewN mm).rf.told hx1 rfl).2.2)
                  have HY := Lib.hid (fun mm => (HS.out.1.drewN mm).yes h0.out hx1 rfl)
                  have HNo : Hid (((pu (inq rs i) x).un && y.has x.num) = false → ∀ mm, RLk w p (some ⟨g, 0, none⟩) c (inP rs P k x (i + 1)) (inN rs P k x (i + 1)) j tN hN (wr.drewN mm) Ao co ∧ (inN rs P k x (i + 1)).length = j) := Lib.hid (fun hf mm => by
                    obtain ⟨e1, e2⟩ := in_no rs P hri hf
                    rw [e1, e2]; exact ⟨HS.out.1.drewN mm, HS.out.2⟩)
                  have HFin : Hid (((pu (inq rs i) x).un && y.has x.num) = true → ∀ A' c' w1, RLk w p (some ⟨g, 0, none⟩) c ((inP rs P k x i).set k (pu (inq rs i) x).off) (inN rs P k x i ++ [(pu (inq rs i) x).num]) (j + 1) tN hN w1 A' c' → RLk w p (some ⟨g, 0, none⟩) c (inP rs P k x (i + 1)) (inN rs P k x (i + 1)) (j + 1) tN hN w1 A' c' ∧ (inN rs P k x (i + 1)).length = j + 1) := Lib.hid (fun ht A' c' w1 h => by
                    obtain ⟨e1, e2, e3⟩ := in_yes rs P hri ht
                    rw [e3] at h
                    rw [e1, e2]; exact ⟨h, by rw [List.length_append, HS.out.2]; rfl⟩)
                  have hjl : j ≤ k + 1 ∧ ((pu (inq rs i) x).un = true → j ≤ k) := by
                    refine ⟨hj, fun hu => ?_⟩
                    rw [← HS.out.2]
                    unfold inN
                    have : (x.un && inq rs i x.pk) = false := by
                      cases hq : x.un && inq rs i x.pk
                      · rfl
                      · simp [pu, hq, Pr.off] at hu
                    rw [this]
                    simpa using pnums_le (qcame rs) P k
                  obtain ⟨N, hNN⟩ : ∃ N : Int, (x.num : Int) = N := ⟨_, rfl⟩
                  obtain ⟨lo, hlo⟩ : ∃ N : Int, (y.lo : Int) = N := ⟨_, rfl⟩
                  obtain ⟨hi', hhi'⟩ : ∃ N : Int, (y.hi : Int) = N := ⟨_, rfl⟩
                  obtain ⟨un, hun⟩ : ∃ N, (pu (inq rs i) x).un = N := ⟨_, rfl⟩
                  rw [hNN] at g0
                  rw [hlo] at l0
                  rw [hhi'] at l1
                  rw [hun] at g3 HNo HFin hjl
                  obtain ⟨b1, hb1⟩ : ∃ b, decide (lo ≤ N) = b := ⟨_, rfl⟩
                  obtain ⟨b2, hb2⟩ : ∃ b, decide (N ≤ hi') = b := ⟨_, rfl⟩
                  have hit : y.has x.num = (b1 && b2) := by
                    rw [← hb1, ← hb2]
                    unfold Rg.has
                    congr 1
                    · by_cases h : y.lo ≤ x.num
                      · rw [decide_eq_true h, decide_eq_true (by omega)]
                      · rw [decide_eq_false h, decide_eq_false (by omega)]
                    · by_cases h : x.num ≤ y.hi
                      · rw [decide_eq_true h, decide_eq_true (by omega)]
                      · rw [decide_eq_false h, decide_eq_false (by omega)]
                  rw [hit] at HNo HFin
                  have hnN : Hid ((pu (inq rs i) x).num = x.num ∧ (x.num : Int) = N) := Lib.hid ⟨hnum, hNN⟩
                  have hwsz : Hid (w.heap.size ≤ wr.heap.size) := Lib.hid HS.out.1.fr.size
                  replace hjl := Lib.hid hjl
                  replace hx1 := Lib.hid hx1
                  replace hxe := Lib.hid hxe
                  replace hlen := Lib.hid hlen
                  replace hri := Lib.hid hri
                  clear hnum hNN hlo hhi' hun hit hy g1 g2
                  go_upto_region 17 with fail
                  go_cut [133] from 94 to 132 (fun x wx => x = .bool (un && (b1 && b2)) ∧ ∃ mm, wx = wr.drewN mm)
                  case first =>
                    cases un
                    · go_wp2_with fail
                      go_big_quiet (fail)
                      go_wp2_with fail
                      go_meet
                      exact ⟨rfl, _, rfl⟩
                    · cases b1
                      · go_wp2_with fail
                        go_big_quiet (fail)
                        go_wp2_with fail
                        go_meet
                        exact ⟨rfl, _, rfl⟩
                      · go_wp2_with fail
                        go_big_quiet (fail)
                        go_wp2_with fail
                        go_meet
                        exact ⟨rfl, _, rfl⟩
                  case rest =>
                    obtain ⟨rfl, mm, rfl⟩ := hcut
                    clear hb1 hb2
                    obtain ⟨ht, hht⟩ : ∃ b, (un && (b1 && b2)) = b := ⟨_, rfl⟩
                    rw [hht] at HNo HFin ⊢
                    cases ht with
                    | false =>
                      have HN := Lib.hid (HNo.out rfl mm)
                      clear HNo HFin HY HZ hht
                      have hj2 := hjl.out.1
                      go_wp2_with fail
                      go_roundw
                      case rel => exact ⟨i + 1, j, Ao, co, by omega, by omega, by go_num, rfl, HN⟩
                      case measure => simp [intOf]; omega
                    | true =>
                      have hj2 : j ≤ k := hjl.out.2 (by rw [Bool.and_eq_true] at hht; exact hht.1)
                      have hF := Lib.hid (HFin.out rfl)
                      obtain ⟨o1, -, fin⟩ := HY.out mm
                      rw [hnN.out.1, hnN.out.2] at fin
                      rw [hnN.out.1] at hF
                      have f3 := HZ.out mm
                      replace fin := Lib.hid fin
                      replace o1 := Lib.hid o1
                      clear HNo HFin HY HZ hht
                      go_wp2_with (at_builtin; refine Hid.out ?_)
                      refine Lib.hid ?_
                      refine wpList_app _ rfl _ _ 25 rfl w.heap.size 27 (.int .u64 0) 8 infoU Try.underlying25 rfl (.slice Ao j co) j (nv (inN rs P k x i)) rfl (o1.out.alloc _) _ 1 _ [.int .u64 N] rfl rfl (Rd.fresh_to (by simp [World.setCell]) [.int .u64 N] _ _) (one_int _ _) (by unfold maxLen; omega) (by omega) (by have := hwsz.out; simp [World.setCell]; omega) ?_
                      intro A1 c1' w2 ho2 hg2 _
                      have HN2 := Lib.hid (hF.out A1 c1' w2 (fin.out _ A1 c1' w2 ho2 hg2))
                      clear ho2 hg2 o1 fin
                      go_wp2_with fail
                      go_roundw
                      case rel => exact ⟨i + 1, j + 1, A1, c1', by omega, by omega, by go_num, rfl, HN2⟩
                      case measure => simp [intOf]; omega
                · obtain rfl : i = rs.length := by omega
                  obtain ⟨e1, e2⟩ := in_all rs P hx.out
                  rw [e1, e2] at HS
                  clear e1 e2
                  have hj2 : j ≤ k + 1 := hj
                  go_wp2_with fail
                  go_roundw
                  case rel => exact ⟨k + 1, j, Ao, co, by omega, by omega, by go_num, rfl, HS⟩
                  case measure => simp [intOf]; omega
            · obtain rfl : k = m := by omega
              obtain rfl : j = n := by rw [← HS.out.2, hn.out]
              go_wp2_with fail
              go_ret2
              exact ⟨Ao, co, rfl, HS.out.1.own, HS.out.1.rf, HS.out.1.fr⟩
end
end Go.Proofs.Ytifigmhecgbfoaa
