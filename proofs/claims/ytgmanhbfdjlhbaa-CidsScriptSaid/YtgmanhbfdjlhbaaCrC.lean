/- The document's pool: Retired. (Printed by gen_crC.py.) -/
import Derived.Test.YtgmanhbfdjlhbaaCrB
import Derived.Test.YtgmanhbfdjlhbaaCut
import Derived.Deep.RegionHeld3
namespace Go.Proofs.Ytgmanhbfdjlhbaa
open Go.RowKit

def npos (q : Nat) (l : List Nat) : Nat := (l.takeWhile fun x => decide (x ≤ q)).length
theorem nsort_at (q : Nat) (l : List Nat) : nsort q l = l.take (npos q l) ++ q :: l.drop (npos q l) := by
  unfold nsort npos; rw [take_tw, drop_tw]
theorem npos_le (q : Nat) (l : List Nat) : npos q l ≤ l.length := (List.takeWhile_sublist _).length_le
theorem npos_iff (q : Nat) : ∀ (l : List Nat), l.Pairwise (· ≤ ·) → ∀ j (hj : j < l.length), j < npos q l ↔ l[j] ≤ q
  | [], _, j, hj => by simp at hj
  | x :: l, h, j, hj => by
    rw [List.pairwise_cons] at h
    unfold npos
    by_cases hx : x ≤ q
    · rw [List.takeWhile_cons_of_pos (by simpa using hx), List.length_cons]
      cases j with
      | zero => simp [hx]
      | succ j =>
        have := npos_iff q l h.2 j (by simpa using hj)
        unfold npos at this
        rw [List.getElem_cons_succ, ← this]; omega
    · rw [List.takeWhile_cons_of_neg (by simpa using hx)]
      constructor
      · intro h2; simp at h2
      · intro h2
        exfalso
        cases j with
        | zero => exact hx h2
        | succ j =>
          have := h.1 _ (List.getElem_mem (by simpa using hj : j < l.length))
          rw [List.getElem_cons_succ] at h2
          omega
theorem nsort_len (q : Nat) (l : List Nat) : (nsort q l).length = l.length + 1 := by
  rw [nsort_at, List.length_append, List.length_cons, List.length_take, List.length_drop]
  have := npos_le q l
  omega
theorem nsort_sorted (q : Nat) (l : List Nat) (h : l.Pairwise (· ≤ ·)) : (nsort q l).Pairwise (· ≤ ·) := by
  rw [nsort_at, List.pairwise_append]
  refine ⟨h.sublist (List.take_sublist _ _), List.pairwise_cons.2 ⟨fun y hy => ?_, h.sublist (List.drop_sublist _ _)⟩, fun a ha b hb => ?_⟩
  · obtain ⟨j, hj, rfl⟩ := List.getElem_of_mem hy
    rw [List.length_drop] at hj
    rw [List.getElem_drop]
    have := not_congr (npos_iff q l h (npos q l + j) (by omega))
    omega
  · obtain ⟨i, hi, rfl⟩ := List.getElem_of_mem ha
    rw [List.length_take] at hi
    rw [List.getElem_take]
    have h1 := (npos_iff q l h i (by omega)).1 (by omega)
    rcases List.mem_cons.1 hb with rfl | hb
    · exact h1
    · obtain ⟨j, hj, rfl⟩ := List.getElem_of_mem hb
      rw [List.length_drop] at hj
      rw [List.getElem_drop]
      have := not_congr (npos_iff q l h (npos q l + j) (by omega))
      omega
/-- What was told, and the names, when k were looked at. -/
def ros (use : Int) (l : List Nm) (k : Nat) : List Nat := ((l.take k).filter (Nm.old use)).foldl (fun out x => nsort x.seq out) []
def nmr (use : Int) (x : Nm) : Nm := if x.old use then { x with told := true } else x
def rls (use : Int) (l : List Nm) (k : Nat) : List Nm := (l.take k).map (nmr use) ++ l.drop k
section
variable {use : Int} {l : List Nm} {k : Nat}
theorem ros_sorted : ∀ k, (ros use l k).Pairwise (· ≤ ·) := by
  intro k
  have H : ∀ (m : List Nm) (out : List Nat), out.Pairwise (· ≤ ·) → (m.foldl (fun out x => nsort x.seq out) out).Pairwise (· ≤ ·) := by
    intro m
    induction m with
    | nil => intro out h; exact h
    | cons x m ih => intro out h; exact ih _ (nsort_sorted _ _ h)
  exact H _ _ List.Pairwise.nil
theorem ros_le : (ros use l k).length ≤ l.length := by
  have H : ∀ (m : List Nm) (out : List Nat), (m.foldl (fun out x => nsort x.seq out) out).length = out.length + m.length := by
    intro m
    induction m with
    | nil => intro out; rfl
    | cons x m ih => intro out; rw [List.foldl_cons, ih, nsort_len, List.length_cons]; omega
  unfold ros
  rw [H]
  have := List.length_filter_le (Nm.old use) (l.take k)
  rw [List.length_take] at this
  simp only [List.length_nil]
  omega
theorem ros_no (hk : k < l.length) (h : (l[k]).old use = false) : ros use l (k + 1) = ros use l k := by
  unfold ros
  rw [List.take_succ_eq_append_getElem hk, List.filter_append]; simp [h]
theorem ros_yes (hk : k < l.length) (h : (l[k]).old use = true) : ros use l (k + 1) = nsort (l[k]).seq (ros use l k) := by
  unfold ros
  rw [List.take_succ_eq_append_getElem hk, List.filter_append]; simp [h]
theorem rls_len : (rls use l k).length = l.length := by
  unfold rls; rw [List.length_append, List.length_map, List.length_take, List.length_drop]; omega
theorem rls_at (hk : k < l.length) (hk2 : k < (rls use l k).length) : (rls use l k)[k] = l[k] := by
  have h : (rls use l k)[k]? = l[k]? := by
    unfold rls
    rw [List.getElem?_append_right (by rw [List.length_map, List.length_take]; omega), List.length_map, List.length_take, List.getElem?_drop, show k + (k - min k l.length) = k by omega]
  rw [List.getElem?_eq_getElem hk2, List.getElem?_eq_getElem hk] at h
  injection h
theorem rls_succ (hk : k < l.length) : rls use l (k + 1) = (rls use l k).set k (nmr use l[k]) := by
  unfold rls
  rw [List.set_append_right _ _ (by rw [List.length_map, List.length_take]; omega), List.length_map, List.length_take, show k - min k l.length = 0 by omega, List.take_succ_eq_append_getElem hk, List.map_append, List.drop_eq_getElem_cons hk, List.set_cons_zero, List.append_assoc]
  rfl
theorem rls_no (hk : k < l.length) (h : (l[k]).old use = false) : rls use l (k + 1) = rls use l k := by
  rw [rls_succ hk]
  unfold nmr
  rw [h]
  have h2 : k < (rls use l k).length := by rw [rls_len]; exact hk
  rw [if_neg (by simp), ← rls_at hk h2, List.set_getElem_self]
theorem rls_yes (hk : k < l.length) (hk2 : k < (rls use l k).length) (h : (l[k]).old use = true) : rls use l (k + 1) = (rls use l k).set k { (rls use l k)[k] with told := true } := by
  rw [rls_succ hk, rls_at hk hk2]
  unfold nmr
  rw [h, if_pos rfl]
end
section
variable {w w' : World} {p : Nat} {A : Option Addr} {c : Nat} {r : Cd}
theorem IsRp.sett {g : Nat} (h : IsRp w p (some ⟨g, 0, none⟩) c r) {k : Nat} (hk : k < r.l.length) :
    IsRp (w.setCell ⟨g, k * 6 + 5, none⟩ (.bool true)) p (some ⟨g, 0, none⟩) c ⟨r.l.set k { r.l[k] with told := true }, r.use⟩ ∧ Fr (OnB p (some ⟨g, 0, none⟩)) w (w.setCell ⟨g, k * 6 + 5, none⟩ (.bool true)) := by
  have hpg : p ≠ g := own_typed h.row h.cell rfl
  have F1 : Fr (fun j => j = g) w (w.setCell ⟨g, k * 6 + 5, none⟩ (.bool true)) := (Fr.refl (fun j => j = g) w).setCell (p := ⟨g, k * 6 + 5, none⟩) (fun _ => rfl) _
  have o1 := (h.row.stored (k * 6 + 5) (.bool true)).1
  rw [rv_set1 Nm.cells nmc r.l k 5 _ r.l[k] { r.l[k] with told := true } (List.getElem?_eq_getElem hk) (by omega) (nm_sett _)] at o1
  have hl : (r.l.set k { r.l[k] with told := true }).length = r.l.length := List.length_set
  refine ⟨h.turn ?_ ?_ hl (fun x hx => ?_), F1.mono (fun j hj _ => .inr ⟨_, rfl, hj.symm⟩)⟩
  · simp only [hl]; exact heap_fr h.cell F1 hpg
  · simp only [hl]; exact o1
  · rcases List.mem_or_eq_of_mem_set hx with e | e
    · exact h.path x e
    · rw [e]; show -1 ≤ (r.l[k]).path; exact h.path _ (List.getElem_mem hk)

set_option maxRecDepth 100000 in
set_option maxHeartbeats 16000000 in
theorem rret_any (h : IsRp w p A c r) (h0 : 0 < r.l.length) : Calls Try.prog 21 #[.pointer (some ⟨p, 0, none⟩)] w fun e w' =>
    ∃ A2 c2, e = .returned (.slice A2 (ros r.use r.l r.l.length).length c2) ∧ w'.ownsRow w.heap.size 31 1 (.slice A2 (ros r.use r.l r.l.length).length c2) (ros r.use r.l r.l.length).length (nv (ros r.use r.l r.l.length)) ∧ IsRp w' p A c ⟨r.l.map (nmr r.use), r.use⟩ ∧ Fr (OnB p A) w w' := by
  obtain ⟨g, rfl, hpg, hgl⟩ := h.blk h0
  have hwl := h.lt
  have c0 := wrote_cell h.cell 0 _ rfl
  have hsm := h.small
  obtain ⟨L, hL⟩ : ∃ L, r.l.length = L := ⟨_, rfl⟩
  have hfin : Hid (rls r.use r.l L = r.l.map (nmr r.use)) := Lib.hid (by unfold rls; rw [← hL, List.take_length, List.drop_length, List.append_nil])
  rw [hL] at c0 hsm ⊢
  have HI := Lib.hid h
  obtain ⟨iu, hiu, hy0, hy1, hy2⟩ := info_parts infoU
  replace hL := Lib.hid hL
  replace hpg := Lib.hid hpg
  clear h h0
  go_enter Try.func21, Try.ntmps21
  go_wp2_with fail
  go_loopw [3, 4, 5, 6] (fun o i _ _ wr => ∃ (k m co : Nat) (Ao : Option Addr), k ≤ L ∧ i = .int .i64 k ∧ o = .slice Ao m co ∧ Hid ((ros r.use r.l k).length = m) ∧ Hid (wr.ownsRow w.heap.size 31 1 (.slice Ao m co) m (nv (ros r.use r.l k))) ∧ Hid (IsRp wr p (some ⟨g, 0, none⟩) c ⟨rls r.use r.l k, r.use⟩ ∧ Fr (OnB p (some ⟨g, 0, none⟩)) w wr)) (fun _ i _ _ _ => L - (intOf i).toNat)
  case atStart => exact ⟨0, 0, 0, none, by omega, rfl, rfl, Lib.hid rfl, Lib.hid (World.ownsRow_nil _ _ _ _), Lib.hid ⟨by simpa [rls] using HI.out, Fr.refl _ _⟩⟩
  case round =>
    obtain ⟨k, m, co, Ao, hk, rfl, rfl, HM, HO, HS⟩ := hrel
    clear c0
    by_cases hkL : k < L
    · rename_i aa; clear aa
      have hkl : k < r.l.length := by rw [hL.out]; exact hkL
      have hk2 : k < (rls r.use r.l k).length := by rw [rls_len]; exact hkl
      have I := HS.out.1
      have d0 : wr.cell? ⟨p, 0, none⟩ = some (.slice (some ⟨g, 0, none⟩) L c) := by
        have := wrote_cell I.cell 0 _ rfl
        rw [this]; simp [rls_len, hL.out]
      have d1 : wr.cell? ⟨p, 1, none⟩ = some (.int .i64 r.use) := wrote_cell I.cell 1 _ rfl
      obtain ⟨b, off, e, l0, l1, l2, l3, l4, l5⟩ := load_nm (l := rls r.use r.l k) I.rd hk2
      injection e with e; injection e with e1 e2
      subst e1 e2
      simp only [Nat.zero_add] at l0 l4 l5
      rw [rls_at hkl hk2] at l0 l4 l5
      clear l1 l2 l3
      have hml : m ≤ 100 := by have := ros_le (use := r.use) (l := r.l) (k := k); rw [HM.out, hL.out] at this; omega
      have hpp := HI.out.path _ (List.getElem_mem hkl)
      have hold : (r.l[k]).old r.use = (decide (0 ≤ (r.l[k]).path) && ((r.l[k]).path != r.use) && !(r.l[k]).told) := by
        unfold Nm.old
        by_cases a1 : (r.l[k]).path = -1
        · have e1 : decide (0 ≤ (r.l[k]).path) = false := decide_eq_false (by omega)
          rw [e1]; simp [a1]
        · have e1 : decide (0 ≤ (r.l[k]).path) = true := decide_eq_true (by omega)
          rw [e1]
          by_cases a2 : (r.l[k]).path = r.use
          · simp [a2]
          · have e2 : ((r.l[k]).path != r.use) = true := bne_iff_ne.2 a2
            simp [a1, a2, e2]
      have hno : Hid ((r.l[k]).old r.use = false → rls r.use r.l (k + 1) = rls r.use r.l k ∧ ros r.use r.l (k + 1) = ros r.use r.l k) := Lib.hid (fun e => ⟨rls_no hkl e, ros_no hkl e⟩)
      have hyes : Hid ((r.l[k]).old r.use = true → rls r.use r.l (k + 1) = (rls r.use r.l k).set k { (rls r.use r.l k)[k] with told := true } ∧ ros r.use r.l (k + 1) = nsort (r.l[k]).seq (ros r.use r.l k)) := Lib.hid (fun e => ⟨rls_yes hkl hk2 e, ros_yes hkl e⟩)
      obtain ⟨ol, hol⟩ : ∃ o, (r.l[k]).old r.use = o := ⟨_, rfl⟩
      obtain ⟨sq, hsq⟩ : ∃ s, (r.l[k]).seq = s := ⟨_, rfl⟩
      obtain ⟨pt, hpt⟩ : ∃ s, (r.l[k]).path = s := ⟨_, rfl⟩
      obtain ⟨td, htd⟩ : ∃ s, (r.l[k]).told = s := ⟨_, rfl⟩
      rw [hol] at hno hyes hold
      rw [hsq] at l0 hyes
      rw [hpt] at l4 hold hpp
      rw [htd] at l5 hold
      clear hol hpt htd
      replace hsq := Lib.hid hsq
      have SET : Hid (∀ W, Still wr W → W.frozen? ⟨g, k * 6 + 5, none⟩ = false ∧ W.cell? ⟨g, k * 6 + 5, none⟩ = some (.bool td) ∧
          ∀ W3, W3 = W.setCell ⟨g, k * 6 + 5, none⟩ (.bool true) → IsRp W3 p (some ⟨g, 0, none⟩) c ⟨(rls r.use r.l k).set k { (rls r.use r.l k)[k] with told := true }, r.use⟩ ∧ Fr (OnB p (some ⟨g, 0, none⟩)) w W3 ∧ W3.cell? ⟨g, k * 6, none⟩ = some (.int .u64 (sq : Int)) ∧ W3.ownsRow w.heap.size 31 1 (.slice Ao m co) m (nv (ros r.use r.l k))) := Lib.hid (fun W st => by
        have IW := I.fr (st.fr NoS) (fun _ _ x => x)
        have oW : W.ownsRow 0 62 6 (.slice (some ⟨g, 0, none⟩) (rls r.use r.l k).length c) (rls r.use r.l k).length (nmv (rls r.use r.l k)) := IW.row
        refine ⟨oW.frozenAt _, (World.cell?_of_block (w := wr) (by rw [st.heap])).trans l5, fun W3 e3 => ?_⟩
        obtain ⟨J, F⟩ := IW.sett (k := k) hk2
        subst e3
        have FF := (st.fr (OnB p (some ⟨g, 0, none⟩))).trans F
        refine ⟨J, HS.out.2.trans FF, ?_, own_fr HO.out FF (fun j hj hk => ?_)⟩
        · have hk3 : k < ((rls r.use r.l k).set k { (rls r.use r.l k)[k] with told := true }).length := by rw [List.length_set]; exact hk2
          obtain ⟨b, off, e, y0, _⟩ := load_nm (l := (rls r.use r.l k).set k { (rls r.use r.l k)[k] with told := true }) J.rd hk3
          injection e with e; injection e with e1 e2
          subst e1 e2
          rw [Nat.zero_add, List.getElem_set_self] at y0
          rw [y0]
          show some (Value.int .u64 (((rls r.use r.l k)[k]).seq : Int)) = _
          rw [rls_at hkl hk2, hsq.out]
        · have h1 := (HO.out.lt j hj).1
          rcases hk with hk | ⟨a, ha, hk⟩
          · omega
          · injection ha with ha; subst ha; simp only at hk; omega)
      have NX : Hid (∀ W, Still wr W → W.ownsRow w.heap.size 31 1 (.slice Ao m co) m (nv (ros r.use r.l k)) ∧ IsRp W p (some ⟨g, 0, none⟩) c ⟨rls r.use r.l k, r.use⟩ ∧ Fr (OnB p (some ⟨g, 0, none⟩)) w W) := Lib.hid (fun W st => ⟨own_fr HO.out (st.fr NoS) (fun _ _ x => x), I.fr (st.fr NoS) (fun _ _ x => x), HS.out.2.trans (st.fr _)⟩)
      have hk0 : (0 : Int) ≤ (k : Int) := by omega
      have hki : (k : Int) < (L : Int) := by omega
      have hwr := HS.out.2.size
      obtain ⟨l2, hl2⟩ : ∃ l2, (rls r.use r.l k).set k { (rls r.use r.l k)[k] with told := true } = l2 := ⟨_, rfl⟩
      rw [hl2] at SET hyes
      clear hl2 hsq I HO HS hkl hk2
      by_cases hb : ol = true
      · obtain ⟨ho1, ho2⟩ := hyes.out hb
        rw [hb] at hold
        have b1 : decide (0 ≤ pt) = true := by cases h : decide (0 ≤ pt) <;> simp [h] at hold ⊢
        have b2 : (pt != r.use) = true := by cases h : (pt != r.use) <;> simp [h] at hold ⊢
        have b3 : td = false := by cases h : td <;> simp [h] at hold ⊢
        subst b3
        replace ho1 := Lib.hid ho1
        replace ho2 := Lib.hid ho2
        clear hold hno hyes hb hpp
        go_wp2_with fail
        go_quiet (fail)
        have st : Still wr (wr.drewN nq) := Still.drewN _ _
        obtain ⟨wd, hwd⟩ : ∃ wd, wr.drewN nq = wd := ⟨_, rfl⟩
        rw [hwd] at st ⊢
        obtain ⟨s1, s2, s4⟩ := SET.out wd st
        obtain ⟨J, F, s5, OW⟩ := s4 _ rfl
        replace J := Lib.hid J
        replace F := Lib.hid F
        replace OW := Lib.hid OW
        clear hwd st SET NX s4 d0 d1 l0 l4 l5
        go_upto_region 8 with fail
        obtain ⟨W1, hW1⟩ : ∃ W1, wd.setCell ⟨g, k * 6 + 5, none⟩ (.bool true) = W1 := ⟨_, rfl⟩
        rw [hW1] at J F OW s5 ⊢
        clear hW1 s1 s2
        obtain ⟨os, hos⟩ : ∃ os, ros r.use r.l k = os := ⟨_, rfl⟩
        have hsrt := Lib.hid (ros_sorted (use := r.use) (l := r.l) k)
        rw [hos] at OW ho2 HM hsrt
        obtain ⟨ps, hps⟩ : ∃ ps, npos sq os = ps := ⟨_, rfl⟩
        have hpsm : ps ≤ m := by rw [← hps, ← HM.out]; exact npos_le _ _
        have HIF : Hid (∀ j (hj : j < os.length), j < ps ↔ os[j] ≤ sq) := Lib.hid (by rw [← hps]; exact npos_iff sq os hsrt.out)
        replace hos := Lib.hid hos
        replace hps := Lib.hid hps
        go_wp2_with fail
        go_loopw [6] (fun i wq => ∃ j q : Nat, ps ≤ j ∧ j ≤ m ∧ i = .int .i64 j ∧ wq = W1.drewN q) (fun i _ => (intOf i).toNat)
        case atStart => exact ⟨m, 0, by omega, by omega, rfl, rfl⟩
        case round =>
          obtain ⟨j, q, hj1, hj2, rfl, rfl⟩ := hrel
          by_cases hgt : ps < j
          · rename_i aa; clear aa
            obtain ⟨i, rfl⟩ : ∃ i, j = i + 1 := ⟨j - 1, by omega⟩
            have hil : i < os.length := by rw [HM.out]; omega
            have hnot : ¬ os[i] ≤ sq := by have := not_congr (HIF.out i hil); omega
            obtain ⟨ga, rfl⟩ : ∃ ga, Ao = some ⟨ga, 0, none⟩ := by
              rcases own_cases OW.out with ⟨_, h2, _⟩ | ⟨ga, h1, _⟩
              · omega
              · exact ⟨ga, h1⟩
            have gi := OW.out.cells (g := ga) rfl i (.int .u64 (os[i] : Int)) (by simp [nv, hil])
            rw [WideShapes.add_plain, Nat.zero_add] at gi
            obtain ⟨y, hy⟩ : ∃ y, os[i] = y := ⟨_, rfl⟩
            rw [hy] at gi hnot
            have e1 : ((i + 1 : Nat) : Int) - 1 = (i : Int) := by omega
            have e2 : decide ((sq : Int) < (y : Int)) = true := decide_eq_true (by omega)
            have e2n : decide (sq < y) = true := decide_eq_true (by omega)
            have e3 : decide ((0 : Int) < ((i + 1 : Nat) : Int)) = true := decide_eq_true (by omega)
            have e3n : decide ((0 : Int) < (i : Int) + 1) = true := decide_eq_true (by omega)
            have e4 : (i : Int) < (m : Int) := by omega
            have e5 : (0 : Int) ≤ (i : Int) := by omega
            have e6 : IntKind.i64.wrap ((i : Int) + 1 - 1) = (i : Int) := by rw [IntKind.wrap_i64]; omega
            clear hy hil
            go_wp2_with fail
            go_quiet (fail)
            go_wp2_with fail
            go_roundw
            case rel => exact ⟨i, q + nq, by omega, by omega, by go_num, rfl⟩
            case measure => simp [intOf] <;> omega
          · obtain rfl : j = ps := by omega
            go_upto_region 9 with fail
            go_cut [63] from 50 to 62 (fun x wx => x = .bool false ∧ ∃ q2, wx = W1.drewN q2)
            case first =>
              rcases Nat.eq_zero_or_pos j with h0 | h0
              · have e3 : decide ((0 : Int) < (j : Int)) = false := decide_eq_false (by omega)
                have e3n : decide (0 < j) = false := decide_eq_false (by omega)
                clear h0
                go_wp2_with fail
                go_quiet (fail)
                go_wp2_with fail
                go_meet
                exact ⟨rfl, q + nq, by rw [World.drewN_drewN]⟩
              · obtain ⟨i, rfl⟩ : ∃ i, j = i + 1 := ⟨j - 1, by omega⟩
                have hil : i < os.length := by rw [HM.out]; omega
                have hle : os[i] ≤ sq := (HIF.out i hil).1 (by omega)
                obtain ⟨ga, rfl⟩ : ∃ ga, Ao = some ⟨ga, 0, none⟩ := by
                  rcases own_cases OW.out with ⟨_, h2, _⟩ | ⟨ga, h1, _⟩
                  · omega
                  · exact ⟨ga, h1⟩
                have gi := OW.out.cells (g := ga) rfl i (.int .u64 (os[i] : Int)) (by simp [nv, hil])
                rw [WideShapes.add_plain, Nat.zero_add] at gi
                obtain ⟨y, hy⟩ : ∃ y, os[i] = y := ⟨_, rfl⟩
                rw [hy] at gi hle
                have e1 : ((i + 1 : Nat) : Int) - 1 = (i : Int) := by omega
                have e2 : decide ((sq : Int) < (y : Int)) = false := decide_eq_false (by omega)
                have e2n : decide (sq < y) = false := decide_eq_false (by omega)
                have e3 : decide ((0 : Int) < ((i + 1 : Nat) : Int)) = true := decide_eq_true (by omega)
                have e3n : decide ((0 : Int) < (i : Int) + 1) = true := decide_eq_true (by omega)
                have e4 : (i : Int) < (m : Int) := by omega
                have e5 : (0 : Int) ≤ (i : Int) := by omega
                have e6 : IntKind.i64.wrap ((i : Int) + 1 - 1) = (i : Int) := by rw [IntKind.wrap_i64]; omega
                clear hy hil
                go_wp2_with fail
                go_quiet (fail)
                go_wp2_with fail
                go_meet
                exact ⟨rfl, q + nq, by rw [World.drewN_drewN]⟩
            case rest =>
              obtain ⟨rfl, q2, rfl⟩ := hcut
              obtain ⟨W2, hW2⟩ : ∃ W2, W1.drewN q2 = W2 := ⟨_, rfl⟩
              have st2 : Still W1 W2 := by rw [← hW2]; exact Still.drewN _ _
              rw [hW2]
              have J2 := Lib.hid (J.out.fr (st2.fr NoS) (fun _ _ x => x))
              have F2 := Lib.hid (F.out.trans (st2.fr _))
              have OW2 := own_fr OW.out (st2.fr NoS) (fun _ _ x => x)
              have sc : W2.cell? ⟨g, k * 6, none⟩ = some (.int .u64 (sq : Int)) := (World.cell?_of_block (w := W1) (by rw [st2.heap])).trans s5
              have hwW : Hid (w.heap.size ≤ W2.heap.size) := Lib.hid F2.out.size
              have hcap := RetS.cap OW2
              obtain ⟨q, hq⟩ : ∃ q, j + q = m := ⟨m - j, by omega⟩
              have K2 := cut_h (P := Try.prog) Try.underlying41 infoU Ao m co j (by omega)
              obtain ⟨X, K12, qX⟩ := cut_l (P := Try.prog) Try.underlying41 infoU Ao m co j (by omega) hcap.1
              rw [show m - j = q from by omega] at K12
              have RD := Rd.of_own OW2
              have RT : Hid (∀ W, Below W2.heap.size W2 W → Rd W Ao (nv (os.take j))) := Lib.hid (fun W b => by rw [nv_take]; exact (RD.below b).take j)
              have RX : Hid (∀ W, Below W2.heap.size W2 W → Rd W X (nv (os.drop j))) := Lib.hid (fun W b => by
                have := qX.rd W (nv os) (by simp [HM.out]) (by simp [HM.out]; omega) (RD.below b)
                rw [← nv_drop, List.take_of_length_le (by simp [HM.out])] at this
                exact this)
              have hl7 : Hid ((nv (os.take j)).length = j) := Lib.hid (by rw [nv_length, List.length_take, HM.out]; omega)
              have hl17 : Hid ((nv (os.drop j)).length = q) := Lib.hid (by rw [nv_length, List.length_drop, HM.out]; omega)
              have B0 : Hid (Below W2.heap.size W2 W2.drew) := Lib.hid (Still.drew W2).below
              have KS : Hid (∀ W, Below W2.heap.size W2 W → W.cell? ⟨g, k * 6, none⟩ = some (.int .u64 (sq : Int))) := Lib.hid (fun W b => (b.cell (World.block_lt_of_cell? W2 _ sc)).trans sc)
              have hNS : Hid (nv (ros r.use r.l (k + 1)) = nv (os.take j) ++ [.int .u64 (sq : Int)] ++ nv (os.drop j)) := Lib.hid (by
                rw [ho2.out, nsort_at, hps.out, nv_append, List.append_assoc]; rfl)
              have hNL : Hid ((ros r.use r.l (k + 1)).length = m + 1) := Lib.hid (by rw [ho2.out, nsort_len, HM.out])
              have hjq : j ≤ 100 ∧ q ≤ 100 := by omega
              have hj100 := hjq.1
              have hq100 := hjq.2
              have hkin : (j : Int) ≤ (co : Int) := by omega
              have hkim : (j : Int) ≤ (m : Int) := by omega
              have hj00 : (0 : Int) ≤ (j : Int) := by omega
              replace hq := Lib.hid hq
              clear hW2 st2 J F OW s5 OW2 RD qX hgt hj1 hjq HIF hsrt
              go_upto_region 11 with fail
              refine wp_region_held_drew (S := fun W => W.cell? ⟨g, k * 6, none⟩ = some (.int .u64 (sq : Int))) (by kernel_rfl) (KS.out _ B0.out) (fun hHeld => ?_)
              refine wpAnyH_take (i := 0) (v := ?_) rfl (by kernel_rfl) (by kernel_rfl) (by kernel_rfl) (fun _ _ _ h => h) (Or.inl ⟨by rfl, ?_⟩) (by assumption) ?_
              rotate_left 1
              · (intro w hSw; (try dsimp only at hSw); (try go_split_ands); go_simp; try with_reducible rfl)
              try simp only [Act.put, List.setIfInBounds_toArray, List.set_cons_zero, List.set_cons_succ, List.getElem_toArray, List.getElem_cons_zero, List.getElem_cons_succ]
              refine wpAnyH_take (i := 1) (v := ?_) rfl (by kernel_rfl) (by kernel_rfl) (by kernel_rfl) (fun _ _ _ h => h) (Or.inl ⟨by rfl, ?_⟩) (by assumption) ?_
              rotate_left 1
              · (intro w hSw; (try dsimp only at hSw); (try go_split_ands); go_simp; try with_reducible rfl)
              try simp only [Act.put, List.setIfInBounds_toArray, List.set_cons_zero, List.set_cons_succ, List.getElem_toArray, List.getElem_cons_zero, List.getElem_cons_succ]
              refine wpAnyH_take (i := 2) (v := ?_) rfl (by kernel_rfl) (by kernel_rfl) (by kernel_rfl) (fun _ _ _ h => h) (Or.inl ⟨by rfl, ?_⟩) (by assumption) ?_
              rotate_left 1
              · (intro w hSw; (try dsimp only at hSw); (try go_split_ands); go_simp; try with_reducible rfl)
              try simp only [Act.put, List.setIfInBounds_toArray, List.set_cons_zero, List.set_cons_succ, List.getElem_toArray, List.getElem_cons_zero, List.getElem_cons_succ]
              refine wpAnyH_take (i := 4) (v := ?_) rfl (by kernel_rfl) (by kernel_rfl) (by kernel_rfl) (fun _ _ _ h => h) (Or.inl ⟨by rfl, ?_⟩) (by assumption) ?_
              rotate_left 1
              · (intro w hSw; (try dsimp only at hSw); (try go_split_ands); go_simp; try with_reducible rfl)
              try simp only [Act.put, List.setIfInBounds_toArray, List.set_cons_zero, List.set_cons_succ, List.getElem_toArray, List.getElem_cons_zero, List.getElem_cons_succ]
              refine wpAnyH_take (i := 5) (v := ?_) rfl (by kernel_rfl) (by kernel_rfl) (by kernel_rfl) (fun _ _ _ h => h) (Or.inl ⟨by rfl, ?_⟩) (by assumption) ?_
              rotate_left 1
              · (intro w hSw; (try dsimp only at hSw); (try go_split_ands); go_simp; try with_reducible rfl)
              try simp only [Act.put, List.setIfInBounds_toArray, List.set_cons_zero, List.set_cons_succ, List.getElem_toArray, List.getElem_cons_zero, List.getElem_cons_succ]
              refine wpAnyH_take (i := 6) (v := ?_) rfl (by kernel_rfl) (by kernel_rfl) (by kernel_rfl) (fun _ _ _ h => h) (Or.inl ⟨by rfl, ?_⟩) (by assumption) ?_
              rotate_left 1
              · (intro w hSw; (try dsimp only at hSw); (try go_split_ands); go_simp; try with_reducible rfl)
              try simp only [Act.put, List.setIfInBounds_toArray, List.set_cons_zero, List.set_cons_succ, List.getElem_toArray, List.getElem_cons_zero, List.getElem_cons_succ]
              refine wpAnyH_take (i := 7) (v := ?_) rfl (by kernel_rfl) (by kernel_rfl) (by kernel_rfl) (fun _ _ _ h => h) (Or.inl ⟨by rfl, ?_⟩) (by assumption) ?_
              rotate_left 1
              · (intro w hSw; (try dsimp only at hSw); (try go_split_ands); go_simp; try with_reducible rfl)
              try simp only [Act.put, List.setIfInBounds_toArray, List.set_cons_zero, List.set_cons_succ, List.getElem_toArray, List.getElem_cons_zero, List.getElem_cons_succ]
              refine wpAnyH_take (i := 10) (v := ?_) rfl (by kernel_rfl) (by kernel_rfl) (by kernel_rfl) (fun _ _ _ h => h) (Or.inl ⟨by rfl, ?_⟩) (by assumption) ?_
              rotate_left 1
              · (intro w hSw; (try dsimp only at hSw); (try go_split_ands); go_simp; try with_reducible rfl)
              try simp only [Act.put, List.setIfInBounds_toArray, List.set_cons_zero, List.set_cons_succ, List.getElem_toArray, List.getElem_cons_zero, List.getElem_cons_succ]
              refine wpAnyH_take (i := 11) (v := ?_) rfl (by kernel_rfl) (by kernel_rfl) (by kernel_rfl) (fun _ _ _ h => h) (Or.inl ⟨by rfl, ?_⟩) (by assumption) ?_
              rotate_left 1
              · (intro w hSw; (try dsimp only at hSw); (try go_split_ands); go_simp; try with_reducible rfl)
              try simp only [Act.put, List.setIfInBounds_toArray, List.set_cons_zero, List.set_cons_succ, List.getElem_toArray, List.getElem_cons_zero, List.getElem_cons_succ]
              refine wpAnyH_take (i := 12) (v := ?_) rfl (by kernel_rfl) (by kernel_rfl) (by kernel_rfl) (fun _ _ _ h => h) (Or.inl ⟨by rfl, ?_⟩) (by assumption) ?_
              rotate_left 1
              · (intro w hSw; (try dsimp only at hSw); (try go_split_ands); go_simp; try with_reducible rfl)
              try simp only [Act.put, List.setIfInBounds_toArray, List.set_cons_zero, List.set_cons_succ, List.getElem_toArray, List.getElem_cons_zero, List.getElem_cons_succ]
              refine wpAnyH_ready (rs := [3, 8]) (by kernel_rfl) (by simp) ?_
              refine AllReadyH.cons rfl (fun K hK => ?_) (AllReadyH.cons rfl (fun K hK => ?_) AllReadyH.nil)
              · refine wp_app _ (.const (.slice none 0 0)) (.tmp 68) 41 rfl W2.heap.size 31 iu _ 8 Try.underlying41 hiu hy0 hy1 hy2 rfl (.slice none 0 0) 0 [] (by rfl) (World.ownsRow_nil _ _ _ _) Ao j co (nv (os.take j)) (by rfl) hl7.out (RT.out _ B0.out) (nv_one _) (by unfold maxLen; omega) (by omega) B0.out.size ?_
                intro A7 c7 w7 ho7 hg7 _
                have B7 : Hid (Below W2.heap.size W2 w7) := Lib.hid (B0.out.grown hg7 B0.out.size (fun j hj => by simp [Value.ownBlock] at hj))
                simp only [Nat.zero_add, List.nil_append] at ho7 ⊢
                refine hK.out _ _ (KS.out _ B7.out) (fun hHeld => ?_)
                clear hK K
                try simp only [Act.put, List.setIfInBounds_toArray, List.set_cons_zero, List.set_cons_succ, List.getElem_toArray, List.getElem_cons_zero, List.getElem_cons_succ]
                refine wpAnyH_ready (rs := [8]) (by kernel_rfl) (by simp) ?_
                refine AllReadyH.cons rfl (fun K hK => ?_) AllReadyH.nil
                go_wp2_with fail
                have B9 : Hid (Below W2.heap.size W2 (w7.alloc (.cells #[.int .u64 (sq : Int)] 31))) := Lib.hid (B7.out.trans (((Below.refl _ _).alloc (Nat.le_refl _) _).mono B7.out.size))
                have R9 := Rd.fresh w7 [.int .u64 (sq : Int)] 31
                have ho7b := ho7.alloc (.cells #[.int .u64 (sq : Int)] 31)
                refine hK.out _ _ (KS.out _ B9.out) (fun hHeld => ?_)
                clear hK K
                try simp only [Act.put, List.setIfInBounds_toArray, List.set_cons_zero, List.set_cons_succ, List.getElem_toArray, List.getElem_cons_zero, List.getElem_cons_succ]
                refine wpAnyH_ready (rs := [9]) (by kernel_rfl) (by simp) ?_
                refine AllReadyH.cons rfl (fun K hK => ?_) AllReadyH.nil
                refine wp_app _ (.tmp 69) (.tmp 74) 41 rfl W2.heap.size 31 iu _ 8 Try.underlying41 hiu hy0 hy1 hy2 rfl _ j (nv (os.take j)) (by rfl) ho7b _ 1 1 [.int .u64 (sq : Int)] (by rfl) rfl (by first | exact R9 | (have q := R9; simp at q; exact q)) (by intro u hu; rw [List.mem_singleton.1 hu]; rfl) (by unfold maxLen; omega) (by omega) B9.out.size ?_
                intro A10 c10 w10 ho10 hg10 _
                have B10 : Hid (Below W2.heap.size W2 w10) := Lib.hid (B9.out.grown hg10 B9.out.size (fun q hq => (ho7b.lt q hq).1))
                refine hK.out _ _ (KS.out _ B10.out) (fun hHeld => ?_)
                clear hK K
                try simp only [Act.put, List.setIfInBounds_toArray, List.set_cons_zero, List.set_cons_succ, List.getElem_toArray, List.getElem_cons_zero, List.getElem_cons_succ]
                refine wpAnyH_ready (rs := [13]) (by kernel_rfl) (by simp) ?_
                refine AllReadyH.cons rfl (fun K hK => ?_) AllReadyH.nil
                refine wp_app _ (.tmp 75) (.tmp 78) 41 rfl W2.heap.size 31 iu _ 8 Try.underlying41 hiu hy0 hy1 hy2 rfl _ (j + 1) (nv (os.take j) ++ [.int .u64 (sq : Int)]) (by rfl) ho10 X q (co - j) (nv (os.drop j)) (by rfl) hl17.out (RX.out _ B10.out) (nv_one _) (by unfold maxLen; omega) (by omega) B10.out.size ?_
                intro A17 c17 w17 ho17 hg17 _
                have B17 : Hid (Below W2.heap.size W2 w17) := Lib.hid (B10.out.grown hg17 B10.out.size (fun q hq => (ho10.lt q hq).1))
                refine hK.out _ _ (KS.out _ B17.out) (fun hHeld => ?_)
                clear hK K
                try simp only [Act.put, List.setIfInBounds_toArray, List.set_cons_zero, List.set_cons_succ, List.getElem_toArray, List.getElem_cons_zero, List.getElem_cons_succ]
                refine wpAnyH_take (i := 14) (v := ?_) rfl (by kernel_rfl) (by kernel_rfl) (by kernel_rfl) (fun _ _ _ h => h) (Or.inl ⟨by rfl, ?_⟩) (by assumption) ?_
                rotate_left 1
                · (intro w hSw; (try dsimp only at hSw); (try go_split_ands); go_simp; try with_reducible rfl)
                try simp only [Act.put, List.setIfInBounds_toArray, List.set_cons_zero, List.set_cons_succ, List.getElem_toArray, List.getElem_cons_zero, List.getElem_cons_succ]
                refine wpAnyH_done (by kernel_rfl) ?_ _
                clear hHeld
                have O6 : Hid (w17.ownsRow w.heap.size 31 1 (.slice A17 (m + 1) c17) (m + 1) (nv (ros r.use r.l (k + 1)))) := Lib.hid (by
                  have h1 := hq.out
                  have h2 := ho17
                  rw [show j + 1 + q = m + 1 by omega] at h2
                  rw [hNS.out]
                  exact own_base h2 (fun x hx => Nat.le_trans hwW.out (h2.lt x hx).1))
                have H6 : Hid (IsRp w17 p (some ⟨g, 0, none⟩) c ⟨rls r.use r.l (k + 1), r.use⟩ ∧ Fr (OnB p (some ⟨g, 0, none⟩)) w w17) := Lib.hid (by
                  rw [ho1.out]
                  exact ⟨J2.out.below B17.out, F2.out.trans (Fr.of_below B17.out _)⟩)
                have hjqm : j + 1 + q = m + 1 := by have := hq.out; omega
                rw [hjqm]
                clear KS B0 RT RX hl7 hl17 K2 K12 sc J2 F2 hNS ho17 hg17 B17 B10 B9 B7 ho10 hg10 ho7 hg7
                go_wp2_with fail
                go_roundw
                case rel => exact ⟨k + 1, m + 1, c17, A17, by omega, by go_num, rfl, hNL, O6, H6⟩
                case measure => simp [intOf] <;> omega
              · go_wp2_with fail
                have B9 : Hid (Below W2.heap.size W2 (W2.drew.alloc (.cells #[.int .u64 (sq : Int)] 31))) := Lib.hid (B0.out.trans (((Below.refl _ _).alloc (Nat.le_refl _) _).mono B0.out.size))
                have R9 := Rd.fresh W2.drew [.int .u64 (sq : Int)] 31
                refine hK.out _ _ (KS.out _ B9.out) (fun hHeld => ?_)
                clear hK K
                try simp only [Act.put, List.setIfInBounds_toArray, List.set_cons_zero, List.set_cons_succ, List.getElem_toArray, List.getElem_cons_zero, List.getElem_cons_succ]
                refine wpAnyH_ready (rs := [3]) (by kernel_rfl) (by simp) ?_
                refine AllReadyH.cons rfl (fun K hK => ?_) AllReadyH.nil
                refine wp_app _ (.const (.slice none 0 0)) (.tmp 68) 41 rfl W2.heap.size 31 iu _ 8 Try.underlying41 hiu hy0 hy1 hy2 rfl (.slice none 0 0) 0 [] (by rfl) (World.ownsRow_nil _ _ _ _) Ao j co (nv (os.take j)) (by rfl) hl7.out (RT.out _ B9.out) (nv_one _) (by unfold maxLen; omega) (by omega) B9.out.size ?_
                intro A7 c7 w7 ho7 hg7 _
                have B7 : Hid (Below W2.heap.size W2 w7) := Lib.hid (B9.out.grown hg7 B9.out.size (fun j hj => by simp [Value.ownBlock] at hj))
                simp only [Nat.zero_add, List.nil_append] at ho7 ⊢
                have R9b := R9.grown hg7 (fun _ a ha e => by simp [Value.ownBlock] at e)
                refine hK.out _ _ (KS.out _ B7.out) (fun hHeld => ?_)
                clear hK K
                try simp only [Act.put, List.setIfInBounds_toArray, List.set_cons_zero, List.set_cons_succ, List.getElem_toArray, List.getElem_cons_zero, List.getElem_cons_succ]
                refine wpAnyH_ready (rs := [9]) (by kernel_rfl) (by simp) ?_
                refine AllReadyH.cons rfl (fun K hK => ?_) AllReadyH.nil
                refine wp_app _ (.tmp 69) (.tmp 74) 41 rfl W2.heap.size 31 iu _ 8 Try.underlying41 hiu hy0 hy1 hy2 rfl _ j (nv (os.take j)) (by rfl) ho7 _ 1 1 [.int .u64 (sq : Int)] (by rfl) rfl (by first | exact R9b | (have q := R9b; simp at q; exact q)) (by intro u hu; rw [List.mem_singleton.1 hu]; rfl) (by unfold maxLen; omega) (by omega) B7.out.size ?_
                intro A10 c10 w10 ho10 hg10 _
                have B10 : Hid (Below W2.heap.size W2 w10) := Lib.hid (B7.out.grown hg10 B7.out.size (fun q hq => (ho7.lt q hq).1))
                refine hK.out _ _ (KS.out _ B10.out) (fun hHeld => ?_)
                clear hK K
                try simp only [Act.put, List.setIfInBounds_toArray, List.set_cons_zero, List.set_cons_succ, List.getElem_toArray, List.getElem_cons_zero, List.getElem_cons_succ]
                refine wpAnyH_ready (rs := [13]) (by kernel_rfl) (by simp) ?_
                refine AllReadyH.cons rfl (fun K hK => ?_) AllReadyH.nil
                refine wp_app _ (.tmp 75) (.tmp 78) 41 rfl W2.heap.size 31 iu _ 8 Try.underlying41 hiu hy0 hy1 hy2 rfl _ (j + 1) (nv (os.take j) ++ [.int .u64 (sq : Int)]) (by rfl) ho10 X q (co - j) (nv (os.drop j)) (by rfl) hl17.out (RX.out _ B10.out) (nv_one _) (by unfold maxLen; omega) (by omega) B10.out.size ?_
                intro A17 c17 w17 ho17 hg17 _
                have B17 : Hid (Below W2.heap.size W2 w17) := Lib.hid (B10.out.grown hg17 B10.out.size (fun q hq => (ho10.lt q hq).1))
                refine hK.out _ _ (KS.out _ B17.out) (fun hHeld => ?_)
                clear hK K
                try simp only [Act.put, List.setIfInBounds_toArray, List.set_cons_zero, List.set_cons_succ, List.getElem_toArray, List.getElem_cons_zero, List.getElem_cons_succ]
                refine wpAnyH_take (i := 14) (v := ?_) rfl (by kernel_rfl) (by kernel_rfl) (by kernel_rfl) (fun _ _ _ h => h) (Or.inl ⟨by rfl, ?_⟩) (by assumption) ?_
                rotate_left 1
                · (intro w hSw; (try dsimp only at hSw); (try go_split_ands); go_simp; try with_reducible rfl)
                try simp only [Act.put, List.setIfInBounds_toArray, List.set_cons_zero, List.set_cons_succ, List.getElem_toArray, List.getElem_cons_zero, List.getElem_cons_succ]
                refine wpAnyH_done (by kernel_rfl) ?_ _
                clear hHeld
                have O6 : Hid (w17.ownsRow w.heap.size 31 1 (.slice A17 (m + 1) c17) (m + 1) (nv (ros r.use r.l (k + 1)))) := Lib.hid (by
                  have h1 := hq.out
                  have h2 := ho17
                  rw [show j + 1 + q = m + 1 by omega] at h2
                  rw [hNS.out]
                  exact own_base h2 (fun x hx => Nat.le_trans hwW.out (h2.lt x hx).1))
                have H6 : Hid (IsRp w17 p (some ⟨g, 0, none⟩) c ⟨rls r.use r.l (k + 1), r.use⟩ ∧ Fr (OnB p (some ⟨g, 0, none⟩)) w w17) := Lib.hid (by
                  rw [ho1.out]
                  exact ⟨J2.out.below B17.out, F2.out.trans (Fr.of_below B17.out _)⟩)
                have hjqm : j + 1 + q = m + 1 := by have := hq.out; omega
                rw [hjqm]
                clear KS B0 RT RX hl7 hl17 K2 K12 sc J2 F2 hNS ho17 hg17 B17 B10 B9 B7 ho10 hg10 ho7 hg7
                go_wp2_with fail
                go_roundw
                case rel => exact ⟨k + 1, m + 1, c17, A17, by omega, by go_num, rfl, hNL, O6, H6⟩
                case measure => simp [intOf] <;> omega
      · have hb2 : ol = false := by simpa using hb
        obtain ⟨ho1, ho2⟩ := hno.out hb2
        rw [hb2] at hold
        replace ho1 := Lib.hid ho1
        replace ho2 := Lib.hid ho2
        clear hno hyes hb hb2 SET hpp
        cases b1 : decide (0 ≤ pt)
        · clear hold
          go_wp2_with fail
          go_quiet (fail)
          go_wp2_with fail
          go_roundw
          case rel => exact ⟨k + 1, m, co, Ao, by omega, by go_num, rfl, by rw [ho2.out]; exact HM, by rw [ho2.out]; exact Lib.hid (NX.out _ (Still.drewN _ _)).1, by rw [ho1.out]; exact Lib.hid (NX.out _ (Still.drewN _ _)).2⟩
          case measure => simp [intOf] <;> omega
        · cases b2 : (pt != r.use)
          · clear hold
            go_wp2_with fail
            go_quiet (fail)
            go_wp2_with fail
            go_roundw
            case rel => exact ⟨k + 1, m, co, Ao, by omega, by go_num, rfl, by rw [ho2.out]; exact HM, by rw [ho2.out]; exact Lib.hid (NX.out _ (Still.drewN _ _)).1, by rw [ho1.out]; exact Lib.hid (NX.out _ (Still.drewN _ _)).2⟩
            case measure => simp [intOf] <;> omega
          · obtain rfl : td = true := by cases h : td <;> simp [h, b1, b2] at hold ⊢
            clear hold
            go_wp2_with fail
            go_quiet (fail)
            go_wp2_with fail
            go_roundw
            case rel => exact ⟨k + 1, m, co, Ao, by omega, by go_num, rfl, by rw [ho2.out]; exact HM, by rw [ho2.out]; exact Lib.hid (NX.out _ (Still.drewN _ _)).1, by rw [ho1.out]; exact Lib.hid (NX.out _ (Still.drewN _ _)).2⟩
            case measure => simp [intOf] <;> omega
    · have hk' : k = L := by omega
      subst hk'
      have HR : Hid ((ros r.use r.l k).length = m ∧ wr.ownsRow w.heap.size 31 1 (.slice Ao m co) m (nv (ros r.use r.l k)) ∧ IsRp wr p (some ⟨g, 0, none⟩) c ⟨r.l.map (nmr r.use), r.use⟩ ∧ Fr (OnB p (some ⟨g, 0, none⟩)) w wr) := Lib.hid (by
        rw [← hfin.out]
        exact ⟨HM.out, HO.out, HS.out.1, HS.out.2⟩)
      have d0 : wr.cell? ⟨p, 0, none⟩ = some (.slice (some ⟨g, 0, none⟩) k c) := by
        have := wrote_cell HS.out.1.cell 0 _ rfl
        rw [this]; simp [rls_len, hL.out]
      clear HO HS
      go_wp2_with fail
      go_ret
      obtain ⟨e1, e2, e3, e4⟩ := HR.out
      exact ⟨Ao, co, by rw [e1]; rfl, by rw [e1]; exact e2, e3, e4⟩
end
end Go.Proofs.Ytgmanhbfdjlhbaa
