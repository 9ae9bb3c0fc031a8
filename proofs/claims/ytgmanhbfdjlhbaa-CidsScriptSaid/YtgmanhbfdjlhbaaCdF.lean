/- cids: Retired. -/
import Derived.Test.YtgmanhbfdjlhbaaCdE
import Derived.Test.YtgmanhbfdjlhbaaNv
import Derived.Deep.QuietTactic
import Derived.BigQuiet
namespace Go.Proofs.Ytgmanhbfdjlhbaa
open Go.RowKit

/-- A name behind Retired. -/
def nxr (use : Int) (n : Nx) : Nx := if n.x.old use then nxt n else n
/-- The names when k of them were looked at; what was told. -/
def rnx (use : Int) (l : List Nx) (k : Nat) : List Nx := (l.take k).map (nxr use) ++ l.drop k
def rou (use : Int) (l : List Nx) (k : Nat) : List Nat := ((l.take k).filter fun n => n.x.old use).map fun n => n.x.seq
section
variable {use : Int} {l : List Nx} {k : Nat}
theorem rnx_zero : rnx use l 0 = l := by simp [rnx]
theorem rou_zero : rou use l 0 = [] := by simp [rou]
theorem rnx_len : (rnx use l k).length = l.length := by
  unfold rnx; rw [List.length_append, List.length_map, List.length_take, List.length_drop]; omega
theorem rnx_at (hk : k < l.length) (hk2 : k < (rnx use l k).length) : (rnx use l k)[k] = l[k] := by
  have h : (rnx use l k)[k]? = l[k]? := by
    unfold rnx
    rw [List.getElem?_append_right (by rw [List.length_map, List.length_take]; omega), List.length_map, List.length_take, List.getElem?_drop, show k + (k - min k l.length) = k by omega]
  rw [List.getElem?_eq_getElem hk2, List.getElem?_eq_getElem hk] at h
  injection h
theorem rnx_succ (hk : k < l.length) : rnx use l (k + 1) = (rnx use l k).set k (nxr use l[k]) := by
  unfold rnx
  rw [List.set_append_right _ _ (by rw [List.length_map, List.length_take]; omega), List.length_map, List.length_take, show k - min k l.length = 0 by omega, List.take_succ_eq_append_getElem hk, List.map_append, List.drop_eq_getElem_cons hk, List.set_cons_zero, List.append_assoc]
  rfl
theorem rnx_no (hk : k < l.length) (h : (l[k]).x.old use = false) : rnx use l (k + 1) = rnx use l k := by
  rw [rnx_succ hk]
  unfold nxr
  rw [h]
  have h2 : k < (rnx use l k).length := by rw [rnx_len]; exact hk
  rw [if_neg (by simp), ← rnx_at hk h2, List.set_getElem_self]
theorem rnx_yes (hk : k < l.length) (hk2 : k < (rnx use l k).length) (h : (l[k]).x.old use = true) : rnx use l (k + 1) = (rnx use l k).set k (nxt (rnx use l k)[k]) := by
  rw [rnx_succ hk, rnx_at hk hk2]
  unfold nxr
  rw [h, if_pos rfl]
theorem rou_no (hk : k < l.length) (h : (l[k]).x.old use = false) : rou use l (k + 1) = rou use l k := by
  unfold rou
  rw [List.take_succ_eq_append_getElem hk, List.filter_append]; simp [h]
theorem rou_yes (hk : k < l.length) (h : (l[k]).x.old use = true) : rou use l (k + 1) = rou use l k ++ [(l[k]).x.seq] := by
  unfold rou
  rw [List.take_succ_eq_append_getElem hk, List.filter_append]; simp [h]
theorem rnx_on {p j : Nat} {A : Option Addr} (h : OnC p A (rnx use l k) j) : OnC p A l j := by
  rcases h with h | h | ⟨n, hn, a, ha, h⟩
  · exact .inl h
  · exact .inr (.inl h)
  · refine .inr (.inr ?_)
    unfold rnx at hn
    rcases List.mem_append.1 hn with hn | hn
    · obtain ⟨m, hm, rfl⟩ := List.mem_map.1 hn
      refine ⟨m, List.mem_of_mem_take hm, a, ?_, h⟩
      rw [← ha]; unfold nxr; split <;> rfl
    · exact ⟨n, List.mem_of_mem_drop hn, a, ha, h⟩
theorem rou_le : (rou use l k).length ≤ l.length := by
  unfold rou
  rw [List.length_map]
  refine Nat.le_trans (List.length_filter_le _ _) ?_
  rw [List.length_take]; omega
end
section
variable {w w' : World} {p : Nat} {A : Option Addr} {c : Nat} {l : List Nx} {use : Int}
set_option maxRecDepth 100000 in
set_option maxHeartbeats 8000000 in
theorem cret_any (h : IsCd w p A c l use) (h0 : 0 < l.length) : Calls Try.prog 20 #[.pointer (some ⟨p, 0, none⟩)] w fun e w' =>
    ∃ A2 c2, e = .returned (.slice A2 (rou use l l.length).length c2) ∧ w'.ownsRow w.heap.size 31 1 (.slice A2 (rou use l l.length).length c2) (rou use l l.length).length (nv (rou use l l.length)) ∧ IsCd w' p A c (l.map (nxr use)) use ∧ Fr (OnB p A) w w' := by
  obtain ⟨g, rfl, hpg, hgl⟩ := h.blk h0
  have hwl := h.lt
  have c0 := wrote_cell h.cell 0 _ rfl
  have hsm := h.small
  obtain ⟨L, hL⟩ : ∃ L, l.length = L := ⟨_, rfl⟩
  have hfin : Hid (rnx use l L = l.map (nxr use)) := Lib.hid (by unfold rnx; rw [← hL, List.take_length, List.drop_length, List.append_nil])
  rw [hL] at c0 hsm ⊢
  have HI := Lib.hid h
  replace hL := Lib.hid hL
  replace hpg := Lib.hid hpg
  clear h h0
  go_enter Try.func20, Try.ntmps20
  go_wp2_with fail
  go_loopw [3, 13] (fun o i wr => ∃ (k m co : Nat) (Ao : Option Addr), k ≤ L ∧ i = .int .i64 k ∧ o = .slice Ao m co ∧ Hid ((rou use l k).length = m) ∧ Hid (wr.ownsRow w.heap.size 31 1 (.slice Ao m co) m (nv (rou use l k))) ∧ Hid (IsCd wr p (some ⟨g, 0, none⟩) c (rnx use l k) use ∧ Fr (OnB p (some ⟨g, 0, none⟩)) w wr)) (fun _ i _ => L - (intOf i).toNat)
  case atStart => exact ⟨0, 0, 0, none, by omega, rfl, rfl, Lib.hid (by rw [rou_zero]; rfl), Lib.hid (by rw [rou_zero]; exact World.ownsRow_nil _ _ _ _), Lib.hid (by rw [rnx_zero]; exact ⟨HI.out, Fr.refl _ _⟩)⟩
  case round =>
    obtain ⟨k, m, co, Ao, hk, rfl, rfl, HM, HO, HS⟩ := hrel
    clear c0
    by_cases hkL : k < L
    · rename_i aa; clear aa
      have hkl : k < l.length := by rw [hL.out]; exact hkL
      have hk2 : k < (rnx use l k).length := by rw [rnx_len]; exact hkl
      have I := HS.out.1
      have d0 : wr.cell? ⟨p, 0, none⟩ = some (.slice (some ⟨g, 0, none⟩) L c) := by
        have := wrote_cell I.cell 0 _ rfl
        rw [this]; simp [rnx_len, hL.out]
      have d1 : wr.cell? ⟨p, 1, none⟩ = some (.int .i64 use) := wrote_cell I.cell 1 _ rfl
      obtain ⟨b, off, x0, x1, x2, x3, x4, x5, x6, x7, e, hcl, l0, l1, l2, l3, l4, l5, l6, l7, l8, l9, l10, l11⟩ := load_nx I.rd hk2
      injection e with e; injection e with e1 e2
      subst e1 e2
      simp only [Nat.zero_add] at l0 l10 l11
      rw [rnx_at hkl hk2] at l0 l10 l11
      clear l1 l2 l3 l4 l5 l6 l7 l8 l9 hcl
      have hml : m ≤ 100 := by have := rou_le (use := use) (l := l) (k := k); rw [HM.out, hL.out] at this; omega
      have hold : (l[k]).x.old use = ((l[k]).x.path != -1 && ((l[k]).x.path != use) && !(l[k]).x.told) := by
        unfold Nm.old
        by_cases a1 : (l[k]).x.path = -1
        · simp [a1]
        · by_cases a2 : (l[k]).x.path = use
          · simp [a2]
          · have e1 : ((l[k]).x.path != -1) = true := bne_iff_ne.2 a1
            have e2 : ((l[k]).x.path != use) = true := bne_iff_ne.2 a2
            simp [a1, a2, e1, e2]
      have hno : Hid ((l[k]).x.old use = false → rnx use l (k + 1) = rnx use l k ∧ rou use l (k + 1) = rou use l k) := Lib.hid (fun e => ⟨rnx_no hkl e, rou_no hkl e⟩)
      have hyes : Hid ((l[k]).x.old use = true → rnx use l (k + 1) = (rnx use l k).set k (nxt (rnx use l k)[k]) ∧ rou use l (k + 1) = rou use l k ++ [(l[k]).x.seq]) := Lib.hid (fun e => ⟨rnx_yes hkl hk2 e, rou_yes hkl e⟩)
      obtain ⟨ol, hol⟩ : ∃ o, (l[k]).x.old use = o := ⟨_, rfl⟩
      obtain ⟨sq, hsq⟩ : ∃ s, (l[k]).x.seq = s := ⟨_, rfl⟩
      obtain ⟨pt, hpt⟩ : ∃ s, (l[k]).x.path = s := ⟨_, rfl⟩
      obtain ⟨td, htd⟩ : ∃ s, (l[k]).x.told = s := ⟨_, rfl⟩
      rw [hol] at hno hyes hold
      rw [hsq] at l0 hyes
      rw [hpt] at l10 hold
      rw [htd] at l11 hold
      clear hol hpt htd
      replace hsq := Lib.hid hsq
      have SET : Hid (∀ W, Still wr W → W.frozen? ⟨g, k * 12 + 11, none⟩ = false ∧ W.cell? ⟨g, k * 12 + 11, none⟩ = some (.bool td) ∧ W.cell? ⟨p, 0, none⟩ = some (.slice (some ⟨g, 0, none⟩) L c) ∧
          ∀ W3, W3 = W.setCell ⟨g, k * 12 + 11, none⟩ (.bool true) → IsCd W3 p (some ⟨g, 0, none⟩) c ((rnx use l k).set k (nxt (rnx use l k)[k])) use ∧ Fr (OnB p (some ⟨g, 0, none⟩)) w W3 ∧ W3.cell? ⟨g, k * 12, none⟩ = some (.int .u64 sq) ∧ W3.ownsRow w.heap.size 31 1 (.slice Ao m co) m (nv (rou use l k))) := Lib.hid (fun W st => by
        have IW := I.fr (st.fr NoS) (fun _ _ x => x)
        have hc : ∀ a, W.cell? a = wr.cell? a := fun a => World.cell?_of_block (w := wr) (by rw [st.heap])
        have oW : W.ownsRow 0 57 12 (.slice (some ⟨g, 0, none⟩) (rnx use l k).length c) (rnx use l k).length (nxv (rnx use l k)) := IW.row
        refine ⟨oW.frozenAt _, by rw [hc]; exact l11, by rw [hc]; exact d0, fun W3 e3 => ?_⟩
        obtain ⟨J, F⟩ := IW.sett hk2
        subst e3
        have FF := (st.fr (OnB p (some ⟨g, 0, none⟩))).trans F
        refine ⟨J, HS.out.2.trans FF, ?_, own_fr HO.out FF (fun j hj hk => ?_)⟩
        · have hk3 : k < ((rnx use l k).set k (nxt (rnx use l k)[k])).length := by rw [List.length_set]; exact hk2
          obtain ⟨b, off, _, _, _, _, _, _, _, _, e, _, y0, _⟩ := load_nx J.rd hk3
          injection e with e; injection e with e1 e2
          subst e1 e2
          rw [Nat.zero_add, List.getElem_set_self] at y0
          rw [y0]
          show some (Value.int .u64 (((rnx use l k)[k]).x.seq : Int)) = _
          rw [rnx_at hkl hk2, hsq.out]
        · have h1 := (HO.out.lt j hj).1
          rcases hk with hk | ⟨a, ha, hk⟩
          · omega
          · injection ha with ha; subst ha; simp only at hk; omega)
      have NX : Hid (∀ W, Still wr W → W.ownsRow w.heap.size 31 1 (.slice Ao m co) m (nv (rou use l k)) ∧ IsCd W p (some ⟨g, 0, none⟩) c (rnx use l k) use ∧ Fr (OnB p (some ⟨g, 0, none⟩)) w W) := Lib.hid (fun W st => ⟨own_fr HO.out (st.fr NoS) (fun _ _ x => x), I.fr (st.fr NoS) (fun _ _ x => x), HS.out.2.trans (st.fr _)⟩)
      have hk0 : (0 : Int) ≤ (k : Int) := by omega
      have hki : (k : Int) < (L : Int) := by omega
      have hwr := HS.out.2.size
      obtain ⟨l2, hl2⟩ : ∃ l2, (rnx use l k).set k (nxt (rnx use l k)[k]) = l2 := ⟨_, rfl⟩
      rw [hl2] at SET hyes
      clear hl2 hsq I HO HS hkl hk2
      by_cases hb : ol = true
      · obtain ⟨ho1, ho2⟩ := hyes.out hb
        rw [hb] at hold
        have b1 : (pt != -1) = true := by cases h : (pt != -1) <;> simp [h] at hold ⊢
        have b2 : (pt != use) = true := by cases h : (pt != use) <;> simp [h] at hold ⊢
        have b3 : td = false := by cases h : td <;> simp [h] at hold ⊢
        subst b3
        replace ho1 := Lib.hid ho1
        replace ho2 := Lib.hid ho2
        clear hold hno hyes hb
        go_wp2_with fail
        go_quiet (fail)
        have st : Still wr (wr.drewN nq) := Still.drewN _ _
        obtain ⟨wd, hwd⟩ : ∃ wd, wr.drewN nq = wd := ⟨_, rfl⟩
        rw [hwd] at st ⊢
        obtain ⟨s1, s2, s3, s4⟩ := SET.out wd st
        obtain ⟨J, F, s5, OW⟩ := s4 _ rfl
        have hsz : Hid (w.heap.size ≤ (wd.setCell ⟨g, k * 12 + 11, none⟩ (.bool true)).heap.size) := Lib.hid F.size
        replace J := Lib.hid J
        replace F := Lib.hid F
        replace OW := Lib.hid OW
        clear hwd st SET NX s4 d0 d1 l0 l10 l11
        go_wp2_with (at_builtin; refine Hid.out ?_)
        refine Lib.hid ?_
        refine wpList_app _ rfl _ _ 41 rfl w.heap.size 31 (.int .u64 0) 8 infoU Try.underlying41 rfl (.slice Ao m co) m (nv (rou use l k)) rfl (OW.out.alloc _) (some ⟨wd.heap.size, 0, none⟩) 1 1 (nv [sq]) rfl rfl (Rd.fresh_to (by simp) (nv [sq]) 31 (0, 0)) (nv_one _) (by unfold maxLen; omega) (by omega) (Nat.le_trans hsz.out (by simp)) ?_
        intro A6 c6 w6 o6 g6 _
        have O6 : Hid (w6.ownsRow w.heap.size 31 1 (.slice A6 (m + 1) c6) (m + 1) (nv (rou use l (k + 1)))) := Lib.hid (by rw [ho2.out, nv_append]; exact o6)
        have FA : Fr (fun j => (Value.slice Ao m co).ownBlock = some j) (wd.setCell ⟨g, k * 12 + 11, none⟩ (.bool true)) w6 := ((Fr.refl _ _).alloc _).grown g6 (fun _ h _ => h)
        have H6 : Hid (IsCd w6 p (some ⟨g, 0, none⟩) c (rnx use l (k + 1)) use ∧ Fr (OnB p (some ⟨g, 0, none⟩)) w w6) := Lib.hid (by
          rw [ho1.out]
          have hn : ∀ j, (Value.slice Ao m co).ownBlock = some j → w.heap.size ≤ j := fun j hj => (OW.out.lt j hj).1
          have hon : ∀ j, OnC p (some ⟨g, 0, none⟩) l2 j → j < w.heap.size := by
            rw [← ho1.out]; exact fun j hj => HI.out.on_lt j (rnx_on hj)
          exact ⟨J.out.fr FA (fun j hj hk => by have := hn j hk; have := hon j hj; omega), F.out.trans' FA (fun j hj hlt => by have := hn j hj; omega)⟩)
        have M6 : Hid ((rou use l (k + 1)).length = m + 1) := Lib.hid (by rw [ho2.out, List.length_append, HM.out]; rfl)
        clear o6 g6 FA J F OW hsz s1 s2 s3 s5
        go_wp2_with fail
        go_roundw
        case rel => exact ⟨k + 1, m + 1, c6, A6, by omega, by go_num, rfl, M6, O6, H6⟩
        case measure => simp [intOf]; omega
      · have hb2 : ol = false := by simpa using hb
        obtain ⟨ho1, ho2⟩ := hno.out hb2
        rw [hb2] at hold
        replace ho1 := Lib.hid ho1
        replace ho2 := Lib.hid ho2
        clear hno hyes hb hb2 SET
        cases b1 : (pt != -1)
        · clear hold
          go_wp2_with fail
          go_quiet (fail)
          go_wp2_with fail
          go_roundw
          case rel => exact ⟨k + 1, m, co, Ao, by omega, by go_num, rfl, by rw [ho2.out]; exact HM, by rw [ho2.out]; exact Lib.hid (NX.out _ (Still.drewN _ _)).1, by rw [ho1.out]; exact Lib.hid (NX.out _ (Still.drewN _ _)).2⟩
          case measure => simp [intOf]; omega
        · cases b2 : (pt != use)
          · clear hold
            go_wp2_with fail
            go_quiet (fail)
            go_wp2_with fail
            go_roundw
            case rel => exact ⟨k + 1, m, co, Ao, by omega, by go_num, rfl, by rw [ho2.out]; exact HM, by rw [ho2.out]; exact Lib.hid (NX.out _ (Still.drewN _ _)).1, by rw [ho1.out]; exact Lib.hid (NX.out _ (Still.drewN _ _)).2⟩
            case measure => simp [intOf]; omega
          · obtain rfl : td = true := by cases h : td <;> simp [h, b1, b2] at hold ⊢
            clear hold
            go_wp2_with fail
            go_quiet (fail)
            go_wp2_with fail
            go_roundw
            case rel => exact ⟨k + 1, m, co, Ao, by omega, by go_num, rfl, by rw [ho2.out]; exact HM, by rw [ho2.out]; exact Lib.hid (NX.out _ (Still.drewN _ _)).1, by rw [ho1.out]; exact Lib.hid (NX.out _ (Still.drewN _ _)).2⟩
            case measure => simp [intOf]; omega
    · have hk' : k = L := by omega
      subst hk'
      have HR : Hid (m = (rou use l k).length ∧ wr.ownsRow w.heap.size 31 1 (.slice Ao (rou use l k).length co) (rou use l k).length (nv (rou use l k)) ∧ IsCd wr p (some ⟨g, 0, none⟩) c (l.map (nxr use)) use ∧ Fr (OnB p (some ⟨g, 0, none⟩)) w wr) := Lib.hid (by
        rw [HM.out, ← hfin.out]
        exact ⟨rfl, HO.out, HS.out.1, HS.out.2⟩)
      clear HO HS
      have hm2 := HR.out.1
      subst hm2
      go_wp2_with fail
      go_ret
      obtain ⟨e1, e2, e3, e4⟩ := HR.out
      exact ⟨Ao, co, rfl, e2, e3, e4⟩
end
end Go.Proofs.Ytgmanhbfdjlhbaa
