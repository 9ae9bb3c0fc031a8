/- The document's Flight: packets that are told, one by one; Lost. -/
import Derived.Test.YtifigmhecgbfoaaFrB
import Derived.Deep.CutRange
import Derived.Deep.Cut
import Derived.Deep.CutBlock
namespace Go.Proofs.Ytifigmhecgbfoaa
open Go.RowKit

def Pr.off (x : Pr) : Pr := ⟨x.num, x.tick, x.cnt, false⟩
def pu (q : Pk → Bool) (x : Pr) : Pr := if x.un && q x.pk then x.off else x
/-- The first k told, where q holds. -/
def pupd (q : Pk → Bool) (P : List Pr) (k : Nat) : List Pr := (P.take k).map (pu q) ++ P.drop k
def pnums (q : Pk → Bool) (P : List Pr) (k : Nat) : List Nat := ((P.take k).filter fun x => x.un && q x.pk).map Pr.num
section
variable (q : Pk → Bool) (P : List Pr)
theorem pupd_zero : pupd q P 0 = P := by simp [pupd]
@[simp] theorem pupd_len (k : Nat) : (pupd q P k).length = P.length := by simp [pupd]; omega
theorem pupd_get {k : Nat} (hk : k < P.length) : (pupd q P k)[k]? = P[k]? := by
  unfold pupd
  rw [List.getElem?_append_right (by simp; omega), List.length_map, List.length_take, List.getElem?_drop]
  congr 1; omega
theorem pupd_yes {k : Nat} {x : Pr} (h : P[k]? = some x) (hq : (x.un && q x.pk) = true) : pupd q P (k + 1) = (pupd q P k).set k x.off ∧ pnums q P (k + 1) = pnums q P k ++ [x.num] := by
  obtain ⟨hk, e⟩ := List.getElem?_eq_some_iff.1 h
  unfold pupd pnums
  have hl : ((P.take k).map (pu q)).length = k := by simp; omega
  constructor
  · rw [List.take_succ_eq_append_getElem hk, e, List.map_append, List.drop_eq_getElem_cons hk, List.set_append_right _ _ (by omega), hl, Nat.sub_self, List.set_cons_zero, List.append_assoc]
    simp [pu, hq]
  · rw [List.take_succ_eq_append_getElem hk, e, List.filter_append, List.map_append]
    simp [hq]
theorem pupd_no {k : Nat} {x : Pr} (h : P[k]? = some x) (hq : (x.un && q x.pk) = false) : pupd q P (k + 1) = pupd q P k ∧ pnums q P (k + 1) = pnums q P k := by
  obtain ⟨hk, e⟩ := List.getElem?_eq_some_iff.1 h
  unfold pupd pnums
  constructor
  · rw [List.take_succ_eq_append_getElem hk, e, List.map_append, List.drop_eq_getElem_cons hk, List.append_assoc, e]
    simp [pu, hq]
  · rw [List.take_succ_eq_append_getElem hk, e, List.filter_append, List.map_append]
    simp [hq]
theorem pnums_le (k : Nat) : (pnums q P k).length ≤ k := by
  unfold pnums
  rw [List.length_map]
  exact Nat.le_trans (List.length_filter_le _ _) (by simp; omega)
theorem punder_all : punder (pupd q P P.length) = (punder P).filter (fun x => !q x) ∧ pnums q P P.length = ((punder P).filter q).map Pk.num := by
  unfold pupd pnums
  rw [List.take_length, List.drop_length, List.append_nil]
  induction P with
  | nil => exact ⟨rfl, rfl⟩
  | cons x P ih =>
    obtain ⟨h1, h2⟩ := ih
    unfold punder at h1 h2 ⊢
    rw [List.map_cons]
    cases hu : x.un
    · rw [List.filter_cons_of_neg (by simp [pu, hu]), List.filter_cons_of_neg (by simp [hu]), List.filter_cons_of_neg (by simp [hu])]
      exact ⟨h1, h2⟩
    · cases hq : q x.pk
      · rw [List.filter_cons_of_pos (by simp [pu, hu, hq]), List.filter_cons_of_pos hu, List.map_cons, List.map_cons, List.filter_cons_of_pos (by simp [hq]), List.filter_cons_of_neg (by simp [hq]), List.filter_cons_of_neg (by simp [hq])]
        exact ⟨by rw [h1]; simp [pu, hq], h2⟩
      · rw [List.filter_cons_of_neg (by simp [pu, hu, hq, Pr.off]), List.filter_cons_of_pos hu, List.map_cons, List.filter_cons_of_neg (by simp [hq]), List.filter_cons_of_pos (by simp [hu, hq]), List.filter_cons_of_pos hq]
        exact ⟨h1, by rw [List.map_cons, List.map_cons, h2]; rfl⟩
end
section
variable {w w' : World} {p : Nat} {A : Option Addr} {c top : Nat} {P : List Pr} {heard : Bool}
/-- A packet is told. -/
theorem IsRf.told (h : IsRf w p A c P top heard) {k g : Nat} {x : Pr} (hx : P[k]? = some x) (hA : A = some ⟨g, 0, none⟩) :
    IsRf (w.setCell ⟨g, k * 4 + 3, none⟩ (.bool false)) p A c (P.set k x.off) top heard ∧ Fr (OnFl p A) w (w.setCell ⟨g, k * 4 + 3, none⟩ (.bool false)) ∧ w.frozen? ⟨g, k * 4 + 3, none⟩ = false := by
  subst hA
  obtain ⟨hk, e⟩ := List.getElem?_eq_some_iff.1 hx
  have hpg : p ≠ g := fun e => h.ne _ rfl e.symm
  have st := (h.row.stored (k * 4 + 3) (.bool false)).1
  rw [rv_set1 Pr.cells Pr.len P k x x.off 3 (.bool false) hx (by decide) rfl] at st
  refine ⟨⟨?_, ?_, by simpa using h.small, fun y hy => ?_, h.top⟩, (Fr.refl _ w).setCell (p := ⟨g, k * 4 + 3, none⟩) (fun _ => .inr ⟨_, rfl, rfl⟩) _, h.row.frozenAt _⟩
  · rw [heap_setCell_other _ _ _ _ (by simpa using hpg), List.length_set]; exact h.cell
  · rw [List.length_set]; exact st
  · rcases List.mem_or_eq_of_mem_set hy with hy | rfl
    · exact h.oks y hy
    · exact h.oks x (by rw [← e]; exact List.getElem_mem hk)

/-- Where a loop over the packets stands: the first k told, their numbers in a list of its own. -/
structure RLk (w0 : World) (p : Nat) (A : Option Addr) (c : Nat) (P1 : List Pr) (ts : List Nat) (n : Nat) (top : Nat) (heard : Bool) (w : World) (Ao : Option Addr) (co : Nat) : Prop where
  rf : IsRf w p A c P1 top heard
  own : w.ownsRow w0.heap.size 27 1 (.slice Ao n co) n (nv ts)
  fr : Fr (OnFl p A) w0 w
theorem RLk.drewN {w0 : World} {P1 : List Pr} {ts : List Nat} {n : Nat} {Ao : Option Addr} {co : Nat} (h : RLk w0 p A c P1 ts n top heard w Ao co) (m : Nat) : RLk w0 p A c P1 ts n top heard (w.drewN m) Ao co :=
  ⟨h.rf.drewN m, h.own, h.fr.drewN m⟩
/-- One more is told. -/
theorem RLk.yes {w0 : World} {P1 : List Pr} {ts : List Nat} {n : Nat} {Ao : Option Addr} {co : Nat} (h0 : ∀ j, OnFl p A j → j < w0.heap.size) (h : RLk w0 p A c P1 ts n top heard w Ao co) {k g : Nat} {x : Pr} (hx : P1[k]? = some x) (hA : A = some ⟨g, 0, none⟩) :
    (w.setCell ⟨g, k * 4 + 3, none⟩ (.bool false)).ownsRow w0.heap.size 27 1 (.slice Ao n co) n (nv ts) ∧
    (∀ mk, let W := (w.setCell ⟨g, k * 4 + 3, none⟩ (.bool false)).alloc (.cells #[.int .u64 x.num] 27 mk); W.cell? ⟨p, 0, none⟩ = some (.slice A P1.length c)) ∧
    ∀ mk A' c' w1, w1.ownsRow w0.heap.size 27 1 (.slice A' (n + 1) c') (n + 1) (nv ts ++ [.int .u64 x.num]) → ((w.setCell ⟨g, k * 4 + 3, none⟩ (.bool false)).alloc (.cells #[.int .u64 x.num] 27 mk)).grownBy w1 (Value.slice Ao n co).ownBlock →
      RLk w0 p A c (P1.set k x.off) (ts ++ [x.num]) (n + 1) top heard w1 A' c' := by
  obtain ⟨t1, t2, t3⟩ := h.rf.told hx hA
  have o1 : (w.setCell ⟨g, k * 4 + 3, none⟩ (.bool false)).ownsRow w0.heap.size 27 1 (.slice Ao n co) n (nv ts) := own_fr h.own t2 (fun j hj ho => by have := h0 j ho; have := (h.own.lt j hj).1; omega)
  refine ⟨o1, fun mk => ?_, fun mk A' c' w1 ho hg => ?_⟩
  · have := wrote_cell (t1.fr ((Fr.refl NoS _).alloc (.cells #[.int .u64 x.num] 27 mk)) (fun _ _ y => y)).cell 0 _ rfl
    rw [List.length_set] at this
    exact this
  · have F1 : Fr (fun j => (Value.slice Ao n co).ownBlock = some j) (w.setCell ⟨g, k * 4 + 3, none⟩ (.bool false)) w1 := ((Fr.refl _ _).alloc _).grown hg (fun j hj _ => hj)
    refine ⟨t1.fr F1 (fun j hj e => by have := h0 j hj; have := (h.own.lt j e).1; omega), ?_, ?_⟩
    · rw [nv_append]; exact ho
    · have := h.fr.trans t2
      exact this.trans' F1 (fun j hj hlt => by have := (h.own.lt j hj).1; omega)
/-- What a call hands back that tells packets. -/
def RTellPost (p : Nat) (A : Option Addr) (c : Nat) (P1 : List Pr) (ts : List Nat) (n : Nat) (top : Nat) (heard : Bool) (w : World) (Ao : Option Addr) (co : Nat) (w' : World) : Prop :=
  w'.ownsRow w.heap.size 27 1 (.slice Ao n co) n (nv ts) ∧ IsRf w' p A c P1 top heard ∧ Fr (OnFl p A) w w'

set_option maxRecDepth 100000 in
set_option maxHeartbeats 8000000 in
theorem rlost_any (h : IsRf w p A c P top heard) (tick pto : Int) (hT : tick ≤ 9223372036854775807) (q : Pk → Bool) (hq : q = qlost heard top tick (max pto 1)) (n : Nat) (hn : (pnums q P P.length).length = n) :
    Calls Try.prog 20 #[.pointer (some ⟨p, 0, none⟩), .int .i64 tick, .int .i64 pto] w fun e w' => ∃ Ao co, e = .returned (.slice Ao n co) ∧ RTellPost p A c (pupd q P P.length) (pnums q P P.length) n top heard w Ao co w' := by
  have hs := h.small
  obtain ⟨m, hm⟩ : ∃ m, P.length = m := ⟨_, rfl⟩
  have h0 : Hid (∀ j, OnFl p A j → j < w.heap.size) := Lib.hid (fun j hj => h.blk hj)
  have H := Lib.hid h
  have hoks := Lib.hid h.oks
  have htop := h.top
  have htop0 : (0 : Int) ≤ top := by omega
  obtain ⟨R, hR⟩ : ∃ R : Int, R = max pto 1 := ⟨_, rfl⟩
  have HM := fun ts t w => run_max2 (P := Try.prog) pto 1 R hR ts t w
  rw [← hR] at hq
  obtain ⟨tp, htp⟩ : ∃ t : Int, (top : Int) = t := ⟨_, rfl⟩
  rw [hm] at hs hn ⊢
  have HST : Hid (RLk w p A c (pupd q P 0) (pnums q P 0) 0 top heard w none 0) := Lib.hid ⟨by rw [pupd_zero]; exact h, by simp [pnums, nv]; exact World.ownsRow_nil _ _ _ _, Fr.refl _ _⟩
  replace hq := Lib.hid hq
  replace hm := Lib.hid hm
  replace hn := Lib.hid hn
  have hR1 : 1 ≤ R := by omega
  clear h hR
  replace htp := Lib.hid htp
  go_enter Try.func20, Try.ntmps20
  go_wp2_with fail
  go_loopw [7, 8] (fun s i wr => ∃ (k j : Nat) (Ao : Option Addr) (co : Nat), k ≤ m ∧ j ≤ k ∧ i = .int .i64 k ∧ s = .slice Ao j co ∧ Hid (RLk w p A c (pupd q P k) (pnums q P k) j top heard wr Ao co ∧ (pnums q P k).length = j)) (fun _ i _ => m - (intOf i).toNat)
  case atStart => exact ⟨0, 0, none, 0, by omega, by omega, rfl, rfl, Lib.hid ⟨HST.out, by simp [pnums]⟩⟩
  case round =>
    clear HST
    obtain ⟨k, j, Ao, co, hk, hj, rfl, rfl, HS⟩ := hrel
    have c0 := wrote_cell HS.out.1.rf.cell 0 _ rfl
    rw [pupd_len, hm.out] at c0
    by_cases hkm : k < m
    · rename_i aa; clear aa
      have c1 := wrote_cell HS.out.1.rf.cell 1 _ rfl
      have c2 := wrote_cell HS.out.1.rf.cell 2 _ rfl
      rw [htp.out] at c1
      have hkl : k < P.length := by rw [hm.out]; exact hkm
      obtain ⟨x, hx⟩ : ∃ x, P[k]? = some x := ⟨_, List.getElem?_eq_getElem hkl⟩
      have hx1 : (pupd q P k)[k]? = some x := by rw [pupd_get q P hkl, hx]
      have hxok := hoks.out x (List.mem_of_getElem? hx)
      obtain ⟨g, rfl, hpg, _, hc1, hc2, g0, g1, g2, g3⟩ := HS.out.1.rf.elt (k := k) (by rw [pupd_len]; exact hkl)
      have hxe : (pupd q P k)[k]'(by rw [pupd_len]; exact hkl) = x := by
        have := hx1
        rw [List.getElem?_eq_getElem (by rw [pupd_len]; exact hkl)] at this
        injection this
      rw [hxe] at g0 g1 g2 g3
      rw [pupd_len, hm.out] at hc1
      have HY := Lib.hid (fun mm => (HS.out.1.drewN mm).yes h0.out hx1 rfl)
      have HZ := Lib.hid (fun mm => ((HS.out.1.drewN mm).rf.told hx1 rfl).2.2)
      have HNo : Hid ((x.un && q x.pk) = false → ∀ mm, RLk w p (some ⟨g, 0, none⟩) c (pupd q P (k + 1)) (pnums q P (k + 1)) j top heard (wr.drewN mm) Ao co ∧ (pnums q P (k + 1)).length = j) := Lib.hid (fun hf mm => by
        obtain ⟨e1, e2⟩ := pupd_no q P hx hf
        rw [e1, e2]; exact ⟨HS.out.1.drewN mm, HS.out.2⟩)
      have HFin : Hid (∀ A' c' w1, (x.un && q x.pk) = true → RLk w p (some ⟨g, 0, none⟩) c ((pupd q P k).set k x.off) (pnums q P k ++ [x.num]) (j + 1) top heard w1 A' c' → RLk w p (some ⟨g, 0, none⟩) c (pupd q P (k + 1)) (pnums q P (k + 1)) (j + 1) top heard w1 A' c' ∧ (pnums q P (k + 1)).length = j + 1) := Lib.hid (fun A' c' w1 ht h => by
        obtain ⟨e1, e2⟩ := pupd_yes q P hx ht
        rw [e1, e2]; exact ⟨h, by rw [List.length_append, HS.out.2]; rfl⟩)
      obtain ⟨K, hK⟩ : ∃ K : Int, (x.tick : Int) = K := ⟨_, rfl⟩
      obtain ⟨N, hN⟩ : ∃ N : Int, (x.num : Int) = N := ⟨_, rfl⟩
      obtain ⟨cn, hcn⟩ : ∃ b, x.cnt = b := ⟨_, rfl⟩
      obtain ⟨un, hun⟩ : ∃ b, x.un = b := ⟨_, rfl⟩
      rw [hN] at g0
      rw [hK] at g1
      rw [hcn] at g2
      rw [hun] at g3
      have hK0 : 0 ≤ K := by omega
      have hN0 : 0 ≤ N := by omega
      have hN1 : N ≤ 4611686018427387903 := by have := hxok.1; omega
      obtain ⟨b1, hb1⟩ : ∃ b, decide (K ≤ tick) = b := ⟨_, rfl⟩
      obtain ⟨b2, hb2⟩ : ∃ b, decide (R ≤ tick - K) = b := ⟨_, rfl⟩
      obtain ⟨b3, hb3⟩ : ∃ b, decide (3 ≤ tp) = b := ⟨_, rfl⟩
      obtain ⟨b4, hb4⟩ : ∃ b, decide (N ≤ tp - 3) = b := ⟨_, rfl⟩
      have hit : Hid ((x.un && q x.pk) = (un && ((cn && (b1 && b2)) || (heard && (b3 && b4))))) := Lib.hid (by
        have e3 : decide (3 ≤ top) = b3 := by
          rw [← hb3, ← htp.out]
          by_cases h : 3 ≤ top
          · rw [decide_eq_true h, decide_eq_true (by omega)]
          · rw [decide_eq_false h, decide_eq_false (by omega)]
        have e4 : (decide (3 ≤ top) && decide (x.num ≤ top - 3)) = (b3 && b4) := by
          rw [e3]
          cases b3
          · rfl
          · rw [← hb4, ← htp.out, ← hN, Bool.true_and, Bool.true_and]
            have h3 := of_decide_eq_true e3
            by_cases h : x.num ≤ top - 3
            · rw [decide_eq_true h, decide_eq_true (by omega)]
            · rw [decide_eq_false h, decide_eq_false (by omega)]
        have hql : qlost heard top tick R x.pk = ((heard && (decide (3 ≤ top) && decide (x.num ≤ top - 3))) || (x.cnt && (decide ((x.tick : Int) ≤ tick) && decide (R ≤ tick - x.tick)))) := rfl
        rw [hun, hq.out, hql, e4, hcn, hK, hb1, hb2, Bool.or_comm])
      have hsub : b1 = true → IntKind.i64.wrap (tick - K) = tick - K := fun e => by
        subst e
        have := of_decide_eq_true hb1
        rw [IntKind.wrap_i64]; omega
      have htp0 : 0 ≤ tp := by rw [← htp.out]; omega
      have htp1 : tp ≤ 4611686018427387903 := by rw [← htp.out]; omega
      have hsub3 : Hid (b3 = true → IntKind.u64.wrap (tp - 3) = tp - 3) := Lib.hid (fun e => by
        subst e
        have := of_decide_eq_true hb3
        rw [IntKind.wrap_u64]; omega)
      replace hsub := Lib.hid hsub
      replace hK := Lib.hid hK
      replace hN := Lib.hid hN
      replace hxok := Lib.hid hxok
      replace HS := Lib.hid HS
      replace hx1 := Lib.hid hx1
      replace hxe := Lib.hid hxe
      replace hx := Lib.hid hx
      clear hcn hun
      go_upto_region 7 with fail
      go_cut [10] from 28 to 49 (fun x wx => x = .bool (cn && (b1 && b2)) ∧ wr = wx)
      case first =>
        clear hb3 hb4
        cases cn
        · go_wp2_with fail
          go_meet
          exact ⟨rfl, rfl⟩
        · cases b1
          · go_wp2_with fail
            go_meet
            exact ⟨rfl, rfl⟩
          · have hw := hsub.out rfl
            go_wp2_with fail
            go_meet
            exact ⟨rfl, rfl⟩
      case rest =>
        obtain ⟨rfl, rfl⟩ := hcut
        clear hb1 hb2 g1 g2
        obtain ⟨lt, hlt⟩ : ∃ b, (cn && (b1 && b2)) = b := ⟨_, rfl⟩
        rw [hlt] at hit ⊢
        clear hlt
        go_upto_region 8 with fail
        go_cut [81] from 50 to 80 (fun x wx => x = .bool (un && (lt || (heard && (b3 && b4)))) ∧ ∃ mm, wx = wr.drewN mm)
        case first =>
          cases un
          · go_wp2_with fail
            go_big_quiet (fail)
            go_wp2_with fail
            go_meet
            exact ⟨rfl, _, rfl⟩
          · cases lt
            · cases heard
              · go_wp2_with fail
                go_big_quiet (fail)
                go_wp2_with fail
                go_meet
                exact ⟨rfl, _, rfl⟩
              · cases b3
                · go_wp2_with fail
                  go_big_quiet (fail)
                  go_wp2_with fail
                  go_meet
                  exact ⟨rfl, _, rfl⟩
                · have hw3 := hsub3.out rfl
                  go_wp2_with fail
                  go_big_quiet (fail)
                  go_wp2_with fail
                  go_meet
                  exact ⟨rfl, _, rfl⟩
            · go_wp2_with fail
              go_big_quiet (fail)
              go_wp2_with fail
              go_meet
              exact ⟨rfl, _, rfl⟩
        case rest =>
          obtain ⟨rfl, mm, rfl⟩ := hcut
          obtain ⟨ht, hht⟩ : ∃ b, (un && (lt || (heard && (b3 && b4)))) = b := ⟨_, rfl⟩
          rw [hht] at hit ⊢
          clear hht hb3 hb4
          cases ht with
          | false =>
            have HN := Lib.hid (HNo.out hit.out mm)
            clear HNo HFin HY
            go_wp2_with fail
            go_roundw
            case rel => exact ⟨k + 1, j, Ao, co, by omega, by omega, by go_num, rfl, HN⟩
            case measure => simp [intOf]; omega
          | true =>
            have hF := Lib.hid (fun A' c' w1 h => HFin.out A' c' w1 hit.out h)
            obtain ⟨o1, -, fin⟩ := HY.out mm
            rw [hN.out] at fin
            have f3 := HZ.out mm
            have hwsz : Hid (w.heap.size ≤ wr.heap.size) := Lib.hid HS.out.1.fr.size
            replace fin := Lib.hid fin
            replace o1 := Lib.hid o1
            clear HNo HFin HY HZ
            go_wp2_with (at_builtin; refine Hid.out ?_)
            refine Lib.hid ?_
            refine wpList_app _ rfl _ _ 25 rfl w.heap.size 27 (.int .u64 0) 8 infoU Try.underlying25 rfl (.slice Ao j co) j (nv (pnums q P k)) rfl (o1.out.alloc _) _ 1 _ [.int .u64 N] rfl rfl (Rd.fresh_to (by simp [World.setCell]) [.int .u64 N] _ _) (one_int _ _) (by unfold maxLen; omega) (by omega) (by have := hwsz.out; simp [World.setCell]; omega) ?_
            intro A1 c1' w2 ho2 hg2 _
            have HN2 := Lib.hid (hF.out A1 c1' w2 (fin.out _ A1 c1' w2 ho2 hg2))
            clear ho2 hg2 o1 fin
            go_wp2_with fail
            go_roundw
            case rel => exact ⟨k + 1, j + 1, A1, c1', by omega, by omega, by go_num, rfl, HN2⟩
            case measure => simp [intOf]; omega
    · obtain rfl : k = m := by omega
      obtain rfl : j = n := by rw [← HS.out.2, hn.out]
      go_wp2_with fail
      go_ret
      exact ⟨Ao, co, rfl, HS.out.1.own, HS.out.1.rf, HS.out.1.fr⟩
end
end Go.Proofs.Ytifigmhecgbfoaa
