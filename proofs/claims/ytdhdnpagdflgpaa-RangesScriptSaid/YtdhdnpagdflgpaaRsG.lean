/- RangesScript: the walk. -/
import Derived.Test.YtdhdnpagdflgpaaRsF
import Derived.Test.YtdhdnpagdflgpaaRgJ
import Derived.Deep.RegionHeld3
namespace Go.Proofs.Ytdhdnpagdflgpaa
open Go.RowKit

/-- Both, and what was there at first. -/
structure RMid (B : Nat) (w0 W : World) (p q N : Nat) (s : Rs) (r : RN) : Prop where
  two : Two OS ON (fun k => k < B) W p s q r
  bel : Below B w0 W
  lt : B ≤ W.heap.size
  sim : SimR s r
  len : r.N.length ≤ N
section
variable {B : Nat} {w0 W W' : World} {p q N M : Nat} {s s' : Rs} {r r' : RN}
theorem RMid.below (h : RMid B w0 W p q N s r) (b : Below W.heap.size W W') : RMid B w0 W' p q N s r :=
  ⟨h.two.below okS okN b, h.bel.trans (b.mono h.lt), Nat.le_trans h.lt b.size, h.sim, h.len⟩
theorem RMid.still (h : RMid B w0 W p q N s r) (b : Still W W') : RMid B w0 W' p q N s r := h.below b.below
theorem RMid.on (h : RMid B w0 W p q N s r) (t : Two OS ON (fun k => k < B) W' p s' q r') (F : Fr (NotP (fun k => k < B)) W W') (hs : SimR s' r') (l : r'.N.length ≤ M) : RMid B w0 W' p q M s' r' :=
  ⟨t, fp_below h.bel h.lt (fun _ h => h) F, Nat.le_trans h.lt F.size, hs, l⟩
/-- A write into a block that is none of theirs. -/
theorem RMid.free (h : RMid B w0 W p q N s r) {T : Nat → Prop} (t : Two OS ON (fun k => k < B ∨ T k) W p s q r) (F : Fr T W W') (hT : ∀ k, T k → B ≤ k) : RMid B w0 W' p q N s r :=
  ⟨(t.fr okS okN F (fun _ _ h => .inr h)).narrow (fun _ h => .inl h), Fr.under h.bel h.lt F (fun k hk _ => hT k hk), Nat.le_trans h.lt F.size, h.sim, h.len⟩
end
/-- Both, and a list of one's own. -/
structure RGot (B : Nat) (w0 W : World) (p q : Nat) (v : Value) (L : Nat) (xs : List Value) (s : Rs) (r : RN) : Prop where
  two : Two OS ON (fun k => k < B ∨ v.ownBlock = some k) W p s q r
  bel : Below B w0 W
  lt : B ≤ W.heap.size
  sim : SimR s r
  own : W.ownsRow 0 33 2 v L xs
theorem RGot.below {B : Nat} {w0 W W' : World} {p q L : Nat} {v : Value} {xs : List Value} {s : Rs} {r : RN} (h : RGot B w0 W p q v L xs s r) (b : Below W.heap.size W W') : RGot B w0 W' p q v L xs s r :=
  ⟨h.two.below okS okN b, h.bel.trans (b.mono h.lt), Nat.le_trans h.lt b.size, h.sim, own_fr h.own (Fr.of_below b NoS) (fun _ _ x => x)⟩
theorem RGot.still {B : Nat} {w0 W W' : World} {p q L : Nat} {v : Value} {xs : List Value} {s : Rs} {r : RN} (h : RGot B w0 W p q v L xs s r) (b : Still W W') : RGot B w0 W' p q v L xs s r := h.below b.below
theorem RGot.put {B : Nat} {w0 W : World} {p q L c g : Nat} {xs : List Value} {s : Rs} {r : RN} {M : Nat} (h : RGot B w0 W p q (.slice (some ⟨g, 0, none⟩) L c) L xs s r) (hx : xs.length = M) (i : Nat) (u : Value) (hlo : ∀ j, (Value.slice (some ⟨g, 0, none⟩) L c).ownBlock = some j → B ≤ j) :
    ∀ W', W' = W.setCell ⟨g, i, none⟩ u → ∃ ys : List Value, ys.length = M ∧ RGot B w0 W' p q (.slice (some ⟨g, 0, none⟩) L c) L ys s r := by
  rintro W' rfl
  have F : Fr (fun k => (Value.slice (some ⟨g, 0, none⟩) L c).ownBlock = some k) W (W.setCell ⟨g, i, none⟩ u) := (Fr.refl (fun k => (Value.slice (some ⟨g, 0, none⟩) L c).ownBlock = some k) W).setCell (p := ⟨g, i, none⟩) (fun _ => rfl) _
  exact ⟨xs.set i u, by rw [List.length_set]; exact hx, h.two.fr okS okN F (fun _ _ h => .inr h), Fr.under h.bel h.lt F (fun k hk _ => hlo k hk), Nat.le_trans h.lt F.size, h.sim, (h.own.stored i u).1⟩
theorem RGot.back {B : Nat} {w0 W : World} {p q L N : Nat} {v : Value} {xs : List Value} {s : Rs} {r : RN} (h : RGot B w0 W p q v L xs s r) (hN : r.N.length ≤ N) : RMid B w0 W p q N s r :=
  ⟨h.two.narrow (fun _ h => .inl h), h.bel, h.lt, h.sim, hN⟩
theorem elt_u64 {w : World} {A : Option Addr} {l : List Nat} (hr : Rd w A (nv l)) {k : Nat} (hk : k < l.length) : ∃ b off, A = some ⟨b, off, none⟩ ∧ w.cell? ⟨b, off + k, none⟩ = some (.int .u64 l[k]) := by
  obtain ⟨b, off, e, hc⟩ := hr (by simp; omega)
  exact ⟨b, off, e, hc k _ (by simp [nv, hk])⟩

set_option maxRecDepth 100000 in
set_option maxHeartbeats 16000000 in
theorem rscript_go (mo : Nat) (h1 : 1 ≤ mo) (h64 : mo ≤ 64) (ns : List Nat) (A1 : Option Addr) (m c1 : Nat) (bs : List Bool) (A2 : Option Addr) (m2 c2 : Nat) (w : World) (hn : ns.length = m) (hr : Rd w A1 (nv ns)) (hu : ∀ x ∈ ns, x < 18446744073709551616) (hm : m ≤ 60) (hn2 : bs.length = m2) (hr2 : Rd w A2 (bs.map Value.bool)) (hm2 : m2 ≤ 60) :
    Calls Try.prog 7 #[.int .i64 mo, .slice A1 m c1, .slice A2 m2 c2] w fun e w' => e = .returned (.bool true) ∧ Below w.heap.size w w' := by
  have CN := Lib.hid (new_any mo w h1 h64)
  replace hn := Lib.hid hn
  replace hn2 := Lib.hid hn2
  replace hr := Lib.hid hr
  replace hr2 := Lib.hid hr2
  replace hu := Lib.hid hu
  have b64 : (mo : Int) ≤ 64 := by omega
  have b1' : (1 : Int) ≤ mo := by omega
  go_enter Try.func7, Try.ntmps7
  go_wp2_with fail
  refine CN.out.mono ?_
  rintro e w1 ⟨rfl, I1, b1⟩
  obtain ⟨p, hp⟩ : ∃ p, w.heap.size = p := ⟨_, rfl⟩
  rw [hp] at I1 ⊢
  obtain ⟨q, hq⟩ : ∃ q, w1.heap.size = q := ⟨_, rfl⟩
  obtain ⟨w2, hw2⟩ : ∃ w2, w1.alloc (.cells #[.int .i64 mo, .slice none 0 0, .int .u64 0] 45) = w2 := ⟨_, rfl⟩
  have hpq : Hid (p < q) := Lib.hid (by have := I1.lt; omega)
  have X2 : w2.heap[q]? = some (.cells #[.int .i64 mo, .slice none 0 0, .int .u64 0] 45 (0, 0)) := by rw [← hw2, ← hq]; exact heap_alloc_new w1 _
  have b2 : Below w1.heap.size w1 w2 := by rw [← hw2]; exact (Below.refl _ w1).alloc (Nat.le_refl _) _
  have I2 : IsRn w2 q none 0 ⟨mo, [], 0⟩ := ⟨X2, Rd.nil _ _, ⟨Nat.le_refl _, by omega⟩, (fun _ h => by cases h), (fun _ h => by cases h), by simp, by simp, by simp, h64⟩
  have HS : Hid (RMid p w w2 p q 0 (rsnew mo) ⟨mo, [], 0⟩) := Lib.hid ⟨Two.new okS (I := OS) (w := w1) (T := OnB q none) ⟨⟨_, ⟨none, 0, I1, rfl⟩, fun k hk hlt => by
      rcases hk with rfl | ⟨a, ha, _⟩
      · omega
      · cases ha⟩, fun k hk => by have := I1.lt; omega⟩ ⟨none, 0, I2, rfl⟩ b2 (fun k hk => by
      rcases hk with rfl | ⟨a, ha, _⟩
      · omega
      · cases ha), by
    rw [hp] at b1
    exact b1.trans (b2.mono (by have := I1.lt; omega)), by have := heap_lt X2; have := hpq.out; omega, SimR.new mo h1, by simp⟩
  replace hp := Lib.hid hp
  go_wp2_with fail
  try rw [hw2]
  try rw [hq]
  replace hq := Lib.hid hq
  clear CN I1 I2 b1 b2 X2 hw2
  go_loopw [11] (fun i wr => ∃ (k : Nat) (s : Rs) (r : RN), k ≤ m ∧ i = .int .i64 k ∧ Hid (RMid p w wr p q k s r)) (fun i _ => m - (intOf i).toNat)
  case atStart => exact ⟨0, _, _, by omega, rfl, HS⟩
  case round =>
    clear HS
    obtain ⟨k, s, r, hk, rfl, HM⟩ := hrel
    by_cases hkm : k < m
    · rename_i aa; clear aa
      have hkl : k < ns.length := by rw [hn.out]; exact hkm
      obtain ⟨b, off, rfl, g0⟩ := elt_u64 hr.out hkl
      have hbl : b < p := by
        have := World.block_lt_of_cell? w _ g0
        have h5 := hp.out
        simp only at this
        omega
      have hxu := hu.out _ (List.getElem_mem hkl)
      obtain ⟨x, hx⟩ : ∃ x, ns[k] = x := ⟨_, rfl⟩
      rw [hx] at g0 hxu
      have HX : Hid (∀ W, Below p w W → W.cell? ⟨b, off + k, none⟩ = some (.int .u64 x)) := Lib.hid (fun W bW => by rw [bW.cell (p := ⟨b, off + k, none⟩) hbl]; exact g0)
      obtain ⟨bl, hbl2⟩ : ∃ bl : Bool, (k < m2 ∧ bs[k]? = some bl) ∨ (m2 ≤ k ∧ bl = false) := by
        by_cases h : k < m2
        · exact ⟨bs[k]'(by rw [hn2.out]; exact h), .inl ⟨h, List.getElem?_eq_getElem _⟩⟩
        · exact ⟨false, .inr ⟨by omega, rfl⟩⟩
      have g1 := HX.out wr HM.out.bel
      have hkI : (k : Int) < (m : Int) := by omega
      clear hx
      go_upto_region 13 with fail
      go_cut [84] from 75 to 83 (fun y wx => y = .bool bl ∧ wr = wx)
      case first =>
        rcases hbl2 with ⟨hk2, hb2⟩ | ⟨hk2, rfl⟩
        · obtain ⟨b', off', rfl, hcb⟩ := hr2.out (by simp; have := hn2.out; omega)
          have gb : wr.cell? ⟨b', off' + k, none⟩ = some (.bool bl) := by
            have h6 := hcb k (.bool bl) (by simp [hb2])
            rw [HM.out.bel.cell (p := ⟨b', off' + k, none⟩) (by have h7 : b' < w.heap.size := World.block_lt_of_cell? w _ h6; have h5 := hp.out; show b' < p; omega)]
            exact h6
          have hkI2 : (k : Int) < (m2 : Int) := by omega
          clear hb2 hcb
          go_wp2_with fail
          go_meet
          exact ⟨rfl, rfl⟩
        · have hkI2 : (m2 : Int) ≤ (k : Int) := by omega
          have hkd : decide ((k : Int) < (m2 : Int)) = false := decide_eq_false (by omega)
          go_wp2_with fail
          go_meet
          exact ⟨rfl, rfl⟩
      case rest =>
        obtain ⟨rfl, rfl⟩ := hcut
        clear hbl2
        have hsim := Lib.hid HM.out.sim
        have hlen := HM.out.len
        have HD : Hid (Two OS ON (fun k => k < p) wr.drew p s q r) := Lib.hid (HM.out.two.still okS okN (Still.drew _))
        have HF : Hid (∀ W, Fr (NotP (fun k => k < p)) wr.drew W → W.cell? ⟨b, off + k, none⟩ = some (.int .u64 x)) := Lib.hid (fun W F => HX.out W (fp_below (HM.out.bel.trans ((Still.drew wr).below.mono HM.out.lt)) HM.out.lt (fun _ h => h) F))
        go_upto_if 84 with fail
        go_cut [] from 85 to 109 (fun wx => Hid (∃ s' r', RMid p w wx p q (k + 1) s' r'))
        case first =>
          cases bl with
          | true =>
            go_wp2_with fail
            refine (below_t1 x HM.out.two hsim.out hxu).mono ?_
            rintro e w3 ⟨rfl, T3, F3⟩
            have g3 := HX.out _ (fp_below HM.out.bel HM.out.lt (fun _ h => h) F3)
            replace T3 := Lib.hid T3
            go_wp2_with fail
            refine (below_t2 x T3.out hxu).mono ?_
            rintro e w4 ⟨rfl, T4, F4⟩
            have HE := Lib.hid (HM.out.on (M := k + 1) T4 (F3.trans F4) (hsim.out.below x (by omega)) (by have := below_len r x; omega))
            clear T3 T4 F3 F4
            go_wp2_with fail
            go_meet
            exact Lib.hid ⟨_, _, HE.out⟩
          | false =>
            obtain ⟨bb, hbb⟩ : ∃ bb, decide (x ≤ 4611686018427387903 ∧ s.has x = false) = bb := ⟨_, rfl⟩
            have hbb2 : Hid (decide (x ≤ 4611686018427387903 ∧ r.has x = false) = bb) := Lib.hid (by rw [← hsim.out.has]; exact hbb)
            have hne : (bb != bb) = false := by simp
            replace hbb := Lib.hid hbb
            go_wp2_with fail
            go_region_held3 (fun W => W.cell? ⟨b, off + k, none⟩ = some (.int .u64 x)) (first | assumption | exact HF.out _ (by assumption) | exact HF.out _ (Fr.refl _ _)) (first
              | (go_at_call 18; refine (add_t2 x bb T3.out hsim.out.asc (by omega) hbb2.out).mono ?_; rintro e1 w4 ⟨rfl, T4, F4⟩; replace F4 := F3.trans F4; replace T4 := Lib.hid T4)
              | (go_at_call 11; refine (add_t1 x bb HD.out hsim.out hbb.out).mono ?_; rintro e1 w3 ⟨rfl, T3, F3⟩; replace T3 := Lib.hid T3))
            have HE := Lib.hid ((HM.out.still (Still.drew _)).on (M := k + 1) T4.out F4 (sim_addx hsim.out x) (by have := raddx_len r x; omega))
            clear T3 T4 F3 F4
            go_wp2_with fail
            go_meet
            exact Lib.hid ⟨_, _, HE.out⟩
        case rest =>
          obtain ⟨s', r', HE0⟩ := hcut.out
          have HE := Lib.hid HE0
          clear HM HD HF HE0 hcut hsim hlen g1
          obtain ⟨l, hl⟩ : ∃ l, s'.l = l := ⟨_, rfl⟩
          obtain ⟨L, hL⟩ : ∃ L, l.length = L := ⟨_, rfl⟩
          have hll : Hid (rlst r'.N = l) := Lib.hid (HE.out.sim.list.trans hl)
          have hL100 : L ≤ 100 := by
            obtain ⟨⟨S, ⟨A, c, hI, rfl⟩, _⟩, _⟩ := HE.out.two.fst
            have := hI.small
            rw [hl, hL] at this
            exact this
          have hLm : l.length ≤ 1000000 := by omega
          have hlen2 := HE.out.len
          replace hl := Lib.hid hl
          replace hL := Lib.hid hL
          go_wp2_with fail
          refine (list_t1 l L HE.out.two hl.out hL.out).mono ?_
          rintro e v1 ⟨A5, c5, rfl, o5, -, b5⟩
          have HG : Hid (RGot p w v1 p q (.slice A5 L c5) L (rgv l) s' r') := Lib.hid ⟨HE.out.two.widen okS okN (fun j hj => hj.elim .inl (fun h => .inr (o5.lt j h).1)) b5 (fun j hj => by
            rcases hj with h | h
            · have := HE.out.lt; have := b5.size; omega
            · exact (o5.lt j h).2), HE.out.bel.trans (b5.mono HE.out.lt), Nat.le_trans HE.out.lt b5.size, HE.out.sim, own_base o5 (fun _ _ => Nat.zero_le _)⟩
          have hlo5 : Hid (∀ j, (Value.slice A5 L c5).ownBlock = some j → p ≤ j) := Lib.hid (fun j hj => by have := (o5.lt j hj).1; have := HE.out.lt; omega)
          clear HE o5 b5
          go_wp2_with fail
          refine (list_t2 l L HG.out.two hll.out hL.out).mono ?_
          rintro e v2 ⟨A6, c6, rfl, o6, -, b6⟩
          replace HG := Lib.hid (HG.out.below b6)
          replace o6 := Lib.hid o6
          clear b6
          obtain ⟨nn, hnn⟩ : ∃ nn, (s'.l.head?.map Rg.hi).getD 0 = nn := ⟨_, rfl⟩
          obtain ⟨ob, hob⟩ : ∃ ob, (!s'.l.isEmpty) = ob := ⟨_, rfl⟩
          replace hnn := Lib.hid hnn
          replace hob := Lib.hid hob
          go_wp2_with fail
          refine (largest_t1 nn ob HG.out.two hnn.out hob.out).mono ?_
          rintro e v3 ⟨rfl, st⟩
          replace HG := Lib.hid (HG.out.still st)
          have o6' := st.own o6.out
          clear st o6
          have R5 : Hid (Rd v3.drew A5 (rgv l)) := Lib.hid ((Rd.of_ownS HG.out.own).drew)
          have R6 : Hid (Rd v3.drew A6 (rgv l)) := Lib.hid ((Rd.of_ownS o6').drew)
          obtain ⟨x1, hx1⟩ : ∃ x1 : Nat, IntKind.u64.wrap ((x : Int) + 1) = (x1 : Int) := ⟨(x + 1) % 18446744073709551616, by rw [IntKind.wrap_u64]; omega⟩
          obtain ⟨h1, hh1⟩ : ∃ h1, s'.has x = h1 := ⟨_, rfl⟩
          obtain ⟨h2, hh2⟩ : ∃ h1, s'.has x1 = h1 := ⟨_, rfl⟩
          have hh1' : Hid (r'.has x = h1) := Lib.hid (by rw [← HG.out.sim.has]; exact hh1)
          have hh2' : Hid (r'.has x1 = h2) := Lib.hid (by rw [← HG.out.sim.has]; exact hh2)
          replace hh1 := Lib.hid hh1
          replace hh2 := Lib.hid hh2
          have e1 : (h1 != h1) = false := by simp
          have e2 : (h2 != h2) = false := by simp
          have e3 : ((nn : Int) != nn) = false := by simp
          have g3 := HX.out _ HG.out.bel
          have fin : Hid (∀ W, Below v3.heap.size v3 W → RGot p w W p q (.slice A5 L c5) L (rgv l) s' r') := Lib.hid (fun W b => HG.out.below b)
          go_upto_region 20 with fail
          go_cut [172] from 119 to 171 (fun y wx => y = .bool false ∧ Hid (RGot p w wx p q (.slice A5 L c5) L (rgv l) s' r'))
          case first =>
            rcases l with _ | ⟨y, tl⟩
            · obtain rfl : L = 0 := by rw [← hL.out]; rfl
              obtain rfl : ob = false := by rw [← hob.out, hl.out]; rfl
              have HK : Hid (∀ W, Below v3.heap.size v3 W → W.cell? ⟨b, off + k, none⟩ = some (.int .u64 x)) := Lib.hid (fun W bW => by rw [bW.cell (p := ⟨b, off + k, none⟩) (World.block_lt_of_cell? v3 _ g3)]; exact g3)
              go_wp2_with fail
              refine wp_region_held_drew (S := fun W => W.cell? ⟨b, off + k, none⟩ = some (.int .u64 x)) (by kernel_rfl) (HK.out _ (Still.drew _).below) (fun hHeld => ?_)
              refine wpAnyH_take (i := 0) (v := ?_) rfl (by kernel_rfl) (by kernel_rfl) (by kernel_rfl) (fun _ _ _ h => h) (Or.inl ⟨by rfl, ?_⟩) (by assumption) ?_
              rotate_left 1
              · (intro w hSw; (try dsimp only at hSw); (try go_split_ands); go_simp; try with_reducible rfl)
              try simp only [Act.put, List.setIfInBounds_toArray, List.set_cons_zero, List.set_cons_succ, List.getElem_toArray, List.getElem_cons_zero, List.getElem_cons_succ]
              refine wpAnyH_take (i := 1) (v := ?_) rfl (by kernel_rfl) (by kernel_rfl) (by kernel_rfl) (fun _ _ _ h => h) (Or.inl ⟨by rfl, ?_⟩) (by assumption) ?_
              rotate_left 1
              · (intro w hSw; (try dsimp only at hSw); (try go_split_ands); go_simp; try with_reducible rfl)
              try simp only [Act.put, List.setIfInBounds_toArray, List.set_cons_zero, List.set_cons_succ, List.getElem_toArray, List.getElem_cons_zero, List.getElem_cons_succ]
              refine wpAnyH_ready (rs := [2]) (by kernel_rfl) (by simp) ?_
              refine AllReadyH.cons rfl (fun K hK => ?_) AllReadyH.nil
              go_simp; go_at_call 13; refine (samer_n true [] [] 0 0 rfl rfl A5 A6 c5 c6 v3.drew R5.out R6.out (by simp) (by simp) (decide_eq_true rfl)).mono ?_; rintro e1 u1 ⟨rfl, st1⟩; have G1 := Lib.hid ((HG.out.still (Still.drew v3)).still st1); have k1 := Lib.hid (show Below v3.heap.size v3 u1 from ((Still.drew v3).trans st1).below); clear st1
              refine hK.out _ _ (HK.out _ k1.out) (fun hHeld => ?_)
              clear hK K
              try simp only [Act.put, List.setIfInBounds_toArray, List.set_cons_zero, List.set_cons_succ, List.getElem_toArray, List.getElem_cons_zero, List.getElem_cons_succ]
              refine wpAnyH_take (i := 3) (v := ?_) rfl (by kernel_rfl) (by kernel_rfl) (by kernel_rfl) (fun _ _ _ h => h) (Or.inl ⟨by rfl, ?_⟩) (by assumption) ?_
              rotate_left 1
              · (intro w hSw; (try dsimp only at hSw); (try go_split_ands); go_simp; try with_reducible rfl)
              try simp only [Act.put, List.setIfInBounds_toArray, List.set_cons_zero, List.set_cons_succ, List.getElem_toArray, List.getElem_cons_zero, List.getElem_cons_succ]
              refine wpAnyH_take (i := 4) (v := ?_) rfl (by kernel_rfl) (by kernel_rfl) (by kernel_rfl) (fun _ _ _ h => h) (Or.inl ⟨by rfl, ?_⟩) (by assumption) ?_
              rotate_left 1
              · (intro w hSw; (try dsimp only at hSw); (try go_split_ands); go_simp; try with_reducible rfl)
              try simp only [Act.put, List.setIfInBounds_toArray, List.set_cons_zero, List.set_cons_succ, List.getElem_toArray, List.getElem_cons_zero, List.getElem_cons_succ]
              refine wpAnyH_take (i := 5) (v := ?_) rfl (by kernel_rfl) (by kernel_rfl) (by kernel_rfl) (fun _ _ _ h => h) (Or.inl ⟨by rfl, ?_⟩) (by assumption) ?_
              rotate_left 1
              · (intro w hSw; (try dsimp only at hSw); (try go_split_ands); go_simp; try with_reducible rfl)
              try simp only [Act.put, List.setIfInBounds_toArray, List.set_cons_zero, List.set_cons_succ, List.getElem_toArray, List.getElem_cons_zero, List.getElem_cons_succ]
              refine wpAnyH_take (i := 6) (v := ?_) rfl (by kernel_rfl) (by kernel_rfl) (by kernel_rfl) (fun _ _ _ h => h) (Or.inl ⟨by rfl, ?_⟩) (by assumption) ?_
              rotate_left 1
              · (intro w hSw; (try dsimp only at hSw); (try go_split_ands); go_simp; try with_reducible rfl)
              try simp only [Act.put, List.setIfInBounds_toArray, List.set_cons_zero, List.set_cons_succ, List.getElem_toArray, List.getElem_cons_zero, List.getElem_cons_succ]
              refine wpAnyH_take (i := 7) (v := ?_) rfl (by kernel_rfl) (by kernel_rfl) (by kernel_rfl) (fun _ _ _ h => h) (Or.inl ⟨by rfl, ?_⟩) (by assumption) ?_
              rotate_left 1
              · (intro w hSw; (try dsimp only at hSw); (try go_split_ands); go_simp; try with_reducible rfl)
              try simp only [Act.put, List.setIfInBounds_toArray, List.set_cons_zero, List.set_cons_succ, List.getElem_toArray, List.getElem_cons_zero, List.getElem_cons_succ]
              refine wpAnyH_take (i := 8) (v := ?_) rfl (by kernel_rfl) (by kernel_rfl) (by kernel_rfl) (fun _ _ _ h => h) (Or.inl ⟨by rfl, ?_⟩) (by assumption) ?_
              rotate_left 1
              · (intro w hSw; (try dsimp only at hSw); (try go_split_ands); go_simp; try with_reducible rfl)
              try simp only [Act.put, List.setIfInBounds_toArray, List.set_cons_zero, List.set_cons_succ, List.getElem_toArray, List.getElem_cons_zero, List.getElem_cons_succ]
              refine wpAnyH_take (i := 9) (v := ?_) rfl (by kernel_rfl) (by kernel_rfl) (by kernel_rfl) (fun _ _ _ h => h) (Or.inl ⟨by rfl, ?_⟩) (by assumption) ?_
              rotate_left 1
              · (intro w hSw; (try dsimp only at hSw); (try go_split_ands); go_simp; try with_reducible rfl)
              try simp only [Act.put, List.setIfInBounds_toArray, List.set_cons_zero, List.set_cons_succ, List.getElem_toArray, List.getElem_cons_zero, List.getElem_cons_succ]
              refine wpAnyH_take (i := 10) (v := ?_) rfl (by kernel_rfl) (by kernel_rfl) (by kernel_rfl) (fun _ _ _ h => h) (Or.inl ⟨by rfl, ?_⟩) (by assumption) ?_
              rotate_left 1
              · (intro w hSw; (try dsimp only at hSw); (try go_split_ands); go_simp; try with_reducible rfl)
              try simp only [Act.put, List.setIfInBounds_toArray, List.set_cons_zero, List.set_cons_succ, List.getElem_toArray, List.getElem_cons_zero, List.getElem_cons_succ]
              refine wpAnyH_take (i := 11) (v := ?_) rfl (by kernel_rfl) (by kernel_rfl) (by kernel_rfl) (fun _ _ _ h => h) (Or.inl ⟨by rfl, ?_⟩) (by assumption) ?_
              rotate_left 1
              · (intro w hSw; (try dsimp only at hSw); (try go_split_ands); go_simp; try with_reducible rfl)
              try simp only [Act.put, List.setIfInBounds_toArray, List.set_cons_zero, List.set_cons_succ, List.getElem_toArray, List.getElem_cons_zero, List.getElem_cons_succ]
              refine wpAnyH_take (i := 12) (v := ?_) rfl (by kernel_rfl) (by kernel_rfl) (by kernel_rfl) (fun _ _ _ h => h) (Or.inl ⟨by rfl, ?_⟩) (by assumption) ?_
              rotate_left 1
              · (intro w hSw; (try dsimp only at hSw); (try go_split_ands); go_simp; try with_reducible rfl)
              try simp only [Act.put, List.setIfInBounds_toArray, List.set_cons_zero, List.set_cons_succ, List.getElem_toArray, List.getElem_cons_zero, List.getElem_cons_succ]
              refine wpAnyH_take (i := 13) (v := ?_) rfl (by kernel_rfl) (by kernel_rfl) (by kernel_rfl) (fun _ _ _ h => h) (Or.inl ⟨by rfl, ?_⟩) (by assumption) ?_
              rotate_left 1
              · (intro w hSw; (try dsimp only at hSw); (try go_split_ands); go_simp; try with_reducible rfl)
              try simp only [Act.put, List.setIfInBounds_toArray, List.set_cons_zero, List.set_cons_succ, List.getElem_toArray, List.getElem_cons_zero, List.getElem_cons_succ]
              refine wpAnyH_take (i := 14) (v := undef) rfl (by kernel_rfl) (by kernel_rfl) (by kernel_rfl) (fun _ _ _ h => h) (Or.inr ⟨by rfl, rfl⟩) (by assumption) ?_
              try simp only [Act.put, List.setIfInBounds_toArray, List.set_cons_zero, List.set_cons_succ, List.getElem_toArray, List.getElem_cons_zero, List.getElem_cons_succ]
              refine wpAnyH_take (i := 15) (v := undef) rfl (by kernel_rfl) (by kernel_rfl) (by kernel_rfl) (fun _ _ _ h => h) (Or.inr ⟨by rfl, rfl⟩) (by assumption) ?_
              try simp only [Act.put, List.setIfInBounds_toArray, List.set_cons_zero, List.set_cons_succ, List.getElem_toArray, List.getElem_cons_zero, List.getElem_cons_succ]
              refine wpAnyH_take (i := 16) (v := undef) rfl (by kernel_rfl) (by kernel_rfl) (by kernel_rfl) (fun _ _ _ h => h) (Or.inr ⟨by rfl, rfl⟩) (by assumption) ?_
              try simp only [Act.put, List.setIfInBounds_toArray, List.set_cons_zero, List.set_cons_succ, List.getElem_toArray, List.getElem_cons_zero, List.getElem_cons_succ]
              refine wpAnyH_take (i := 17) (v := undef) rfl (by kernel_rfl) (by kernel_rfl) (by kernel_rfl) (fun _ _ _ h => h) (Or.inr ⟨by rfl, rfl⟩) (by assumption) ?_
              try simp only [Act.put, List.setIfInBounds_toArray, List.set_cons_zero, List.set_cons_succ, List.getElem_toArray, List.getElem_cons_zero, List.getElem_cons_succ]
              refine wpAnyH_take (i := 18) (v := undef) rfl (by kernel_rfl) (by kernel_rfl) (by kernel_rfl) (fun _ _ _ h => h) (Or.inr ⟨by rfl, rfl⟩) (by assumption) ?_
              try simp only [Act.put, List.setIfInBounds_toArray, List.set_cons_zero, List.set_cons_succ, List.getElem_toArray, List.getElem_cons_zero, List.getElem_cons_succ]
              refine wpAnyH_take (i := 19) (v := undef) rfl (by kernel_rfl) (by kernel_rfl) (by kernel_rfl) (fun _ _ _ h => h) (Or.inr ⟨by rfl, rfl⟩) (by assumption) ?_
              try simp only [Act.put, List.setIfInBounds_toArray, List.set_cons_zero, List.set_cons_succ, List.getElem_toArray, List.getElem_cons_zero, List.getElem_cons_succ]
              refine wpAnyH_take (i := 20) (v := ?_) rfl (by kernel_rfl) (by kernel_rfl) (by kernel_rfl) (fun _ _ _ h => h) (Or.inl ⟨by rfl, ?_⟩) (by assumption) ?_
              rotate_left 1
              · (intro w hSw; (try dsimp only at hSw); (try go_split_ands); go_simp; try with_reducible rfl)
              try simp only [Act.put, List.setIfInBounds_toArray, List.set_cons_zero, List.set_cons_succ, List.getElem_toArray, List.getElem_cons_zero, List.getElem_cons_succ]
              refine wpAnyH_take (i := 21) (v := ?_) rfl (by kernel_rfl) (by kernel_rfl) (by kernel_rfl) (fun _ _ _ h => h) (Or.inl ⟨by rfl, ?_⟩) (by assumption) ?_
              rotate_left 1
              · (intro w hSw; (try dsimp only at hSw); (try go_split_ands); go_simp; try with_reducible rfl)
              try simp only [Act.put, List.setIfInBounds_toArray, List.set_cons_zero, List.set_cons_succ, List.getElem_toArray, List.getElem_cons_zero, List.getElem_cons_succ]
              refine wpAnyH_take (i := 22) (v := ?_) rfl (by kernel_rfl) (by kernel_rfl) (by kernel_rfl) (fun _ _ _ h => h) (Or.inl ⟨by rfl, ?_⟩) (by assumption) ?_
              rotate_left 1
              · (intro w hSw; (try dsimp only at hSw); (try go_split_ands); go_simp; try with_reducible rfl)
              try simp only [Act.put, List.setIfInBounds_toArray, List.set_cons_zero, List.set_cons_succ, List.getElem_toArray, List.getElem_cons_zero, List.getElem_cons_succ]
              refine wpAnyH_take (i := 23) (v := ?_) rfl (by kernel_rfl) (by kernel_rfl) (by kernel_rfl) (fun _ _ _ h => h) (Or.inl ⟨by rfl, ?_⟩) (by assumption) ?_
              rotate_left 1
              · (intro w hSw; (try dsimp only at hSw); (try go_split_ands); go_simp; try with_reducible rfl)
              try simp only [Act.put, List.setIfInBounds_toArray, List.set_cons_zero, List.set_cons_succ, List.getElem_toArray, List.getElem_cons_zero, List.getElem_cons_succ]
              refine wpAnyH_take (i := 24) (v := ?_) rfl (by kernel_rfl) (by kernel_rfl) (by kernel_rfl) (fun _ _ _ h => h) (Or.inl ⟨by rfl, ?_⟩) (by assumption) ?_
              rotate_left 1
              · (intro w hSw; (try dsimp only at hSw); (try go_split_ands); go_simp; try with_reducible rfl)
              try simp only [Act.put, List.setIfInBounds_toArray, List.set_cons_zero, List.set_cons_succ, List.getElem_toArray, List.getElem_cons_zero, List.getElem_cons_succ]
              refine wpAnyH_take (i := 25) (v := ?_) rfl (by kernel_rfl) (by kernel_rfl) (by kernel_rfl) (fun _ _ _ h => h) (Or.inl ⟨by rfl, ?_⟩) (by assumption) ?_
              rotate_left 1
              · (intro w hSw; (try dsimp only at hSw); (try go_split_ands); go_simp; try with_reducible rfl)
              try simp only [Act.put, List.setIfInBounds_toArray, List.set_cons_zero, List.set_cons_succ, List.getElem_toArray, List.getElem_cons_zero, List.getElem_cons_succ]
              refine wpAnyH_take (i := 26) (v := ?_) rfl (by kernel_rfl) (by kernel_rfl) (by kernel_rfl) (fun _ _ _ h => h) (Or.inl ⟨by rfl, ?_⟩) (by assumption) ?_
              rotate_left 1
              · (intro w hSw; (try dsimp only at hSw); (try go_split_ands); go_simp; try with_reducible rfl)
              try simp only [Act.put, List.setIfInBounds_toArray, List.set_cons_zero, List.set_cons_succ, List.getElem_toArray, List.getElem_cons_zero, List.getElem_cons_succ]
              refine wpAnyH_take (i := 27) (v := ?_) rfl (by kernel_rfl) (by kernel_rfl) (by kernel_rfl) (fun _ _ _ h => h) (Or.inl ⟨by rfl, ?_⟩) (by assumption) ?_
              rotate_left 1
              · (intro w hSw; (try dsimp only at hSw); (try go_split_ands); go_simp; try with_reducible rfl)
              try simp only [Act.put, List.setIfInBounds_toArray, List.set_cons_zero, List.set_cons_succ, List.getElem_toArray, List.getElem_cons_zero, List.getElem_cons_succ]
              refine wpAnyH_take (i := 29) (v := ?_) rfl (by kernel_rfl) (by kernel_rfl) (by kernel_rfl) (fun _ _ _ h => h) (Or.inl ⟨by rfl, ?_⟩) (by assumption) ?_
              rotate_left 1
              · (intro w hSw; (try dsimp only at hSw); (try go_split_ands); go_simp; try with_reducible rfl)
              try simp only [Act.put, List.setIfInBounds_toArray, List.set_cons_zero, List.set_cons_succ, List.getElem_toArray, List.getElem_cons_zero, List.getElem_cons_succ]
              refine wpAnyH_take (i := 30) (v := ?_) rfl (by kernel_rfl) (by kernel_rfl) (by kernel_rfl) (fun _ _ _ h => h) (Or.inl ⟨by rfl, ?_⟩) (by assumption) ?_
              rotate_left 1
              · (intro w hSw; (try dsimp only at hSw); (try go_split_ands); go_simp; try with_reducible rfl)
              try simp only [Act.put, List.setIfInBounds_toArray, List.set_cons_zero, List.set_cons_succ, List.getElem_toArray, List.getElem_cons_zero, List.getElem_cons_succ]
              refine wpAnyH_take (i := 31) (v := ?_) rfl (by kernel_rfl) (by kernel_rfl) (by kernel_rfl) (fun _ _ _ h => h) (Or.inl ⟨by rfl, ?_⟩) (by assumption) ?_
              rotate_left 1
              · (intro w hSw; (try dsimp only at hSw); (try go_split_ands); go_simp; try with_reducible rfl)
              try simp only [Act.put, List.setIfInBounds_toArray, List.set_cons_zero, List.set_cons_succ, List.getElem_toArray, List.getElem_cons_zero, List.getElem_cons_succ]
              refine wpAnyH_take (i := 32) (v := ?_) rfl (by kernel_rfl) (by kernel_rfl) (by kernel_rfl) (fun _ _ _ h => h) (Or.inl ⟨by rfl, ?_⟩) (by assumption) ?_
              rotate_left 1
              · (intro w hSw; (try dsimp only at hSw); (try go_split_ands); go_simp; try with_reducible rfl)
              try simp only [Act.put, List.setIfInBounds_toArray, List.set_cons_zero, List.set_cons_succ, List.getElem_toArray, List.getElem_cons_zero, List.getElem_cons_succ]
              refine wpAnyH_take (i := 33) (v := ?_) rfl (by kernel_rfl) (by kernel_rfl) (by kernel_rfl) (fun _ _ _ h => h) (Or.inl ⟨by rfl, ?_⟩) (by assumption) ?_
              rotate_left 1
              · (intro w hSw; (try dsimp only at hSw); (try go_split_ands); go_simp; try with_reducible rfl)
              try simp only [Act.put, List.setIfInBounds_toArray, List.set_cons_zero, List.set_cons_succ, List.getElem_toArray, List.getElem_cons_zero, List.getElem_cons_succ]
              refine wpAnyH_ready (rs := [28]) (by kernel_rfl) (by simp) ?_
              refine AllReadyH.cons rfl (fun K hK => ?_) AllReadyH.nil
              go_simp; go_at_call 14; refine (has_t1 x h1 G1.out.two hh1.out).mono ?_; rintro e1 u2 ⟨rfl, st2⟩; have G2 := Lib.hid (G1.out.below st2); have k2 := Lib.hid (k1.out.trans (st2.mono k1.out.size)); clear st2
              refine hK.out _ _ (HK.out _ k2.out) (fun hHeld => ?_)
              clear hK K
              try simp only [Act.put, List.setIfInBounds_toArray, List.set_cons_zero, List.set_cons_succ, List.getElem_toArray, List.getElem_cons_zero, List.getElem_cons_succ]
              refine wpAnyH_ready (rs := [34]) (by kernel_rfl) (by simp) ?_
              refine AllReadyH.cons rfl (fun K hK => ?_) AllReadyH.nil
              go_simp; go_at_call 20; refine (has_t2 x h1 G2.out.two hh1'.out).mono ?_; rintro e1 u3 ⟨rfl, st3⟩; have G3 := Lib.hid (G2.out.still st3); have k3 := Lib.hid (k2.out.trans (st3.below.mono k2.out.size)); clear st3
              refine hK.out _ _ (HK.out _ k3.out) (fun hHeld => ?_)
              clear hK K
              try simp only [Act.put, List.setIfInBounds_toArray, List.set_cons_zero, List.set_cons_succ, List.getElem_toArray, List.getElem_cons_zero, List.getElem_cons_succ]
              refine wpAnyH_take (i := 35) (v := ?_) rfl (by kernel_rfl) (by kernel_rfl) (by kernel_rfl) (fun _ _ _ h => h) (Or.inl ⟨by rfl, ?_⟩) (by assumption) ?_
              rotate_left 1
              · (intro w hSw; (try dsimp only at hSw); (try go_split_ands); go_simp; try with_reducible rfl)
              try simp only [Act.put, List.setIfInBounds_toArray, List.set_cons_zero, List.set_cons_succ, List.getElem_toArray, List.getElem_cons_zero, List.getElem_cons_succ]
              refine wpAnyH_take (i := 36) (v := ?_) rfl (by kernel_rfl) (by kernel_rfl) (by kernel_rfl) (fun _ _ _ h => h) (Or.inl ⟨by rfl, ?_⟩) (by assumption) ?_
              rotate_left 1
              · (intro w hSw; (try dsimp only at hSw); (try go_split_ands); go_simp; try with_reducible rfl)
              try simp only [Act.put, List.setIfInBounds_toArray, List.set_cons_zero, List.set_cons_succ, List.getElem_toArray, List.getElem_cons_zero, List.getElem_cons_succ]
              refine wpAnyH_take (i := 37) (v := ?_) rfl (by kernel_rfl) (by kernel_rfl) (by kernel_rfl) (fun _ _ _ h => h) (Or.inl ⟨by rfl, ?_⟩) (by assumption) ?_
              rotate_left 1
              · (intro w hSw; (try dsimp only at hSw); (try go_split_ands); go_simp; try with_reducible rfl)
              try simp only [Act.put, List.setIfInBounds_toArray, List.set_cons_zero, List.set_cons_succ, List.getElem_toArray, List.getElem_cons_zero, List.getElem_cons_succ]
              refine wpAnyH_take (i := 38) (v := ?_) rfl (by kernel_rfl) (by kernel_rfl) (by kernel_rfl) (fun _ _ _ h => h) (Or.inl ⟨by rfl, ?_⟩) (by assumption) ?_
              rotate_left 1
              · (intro w hSw; (try dsimp only at hSw); (try go_split_ands); go_simp; try with_reducible rfl)
              try simp only [Act.put, List.setIfInBounds_toArray, List.set_cons_zero, List.set_cons_succ, List.getElem_toArray, List.getElem_cons_zero, List.getElem_cons_succ]
              refine wpAnyH_take (i := 39) (v := ?_) rfl (by kernel_rfl) (by kernel_rfl) (by kernel_rfl) (fun _ _ _ h => h) (Or.inl ⟨by rfl, ?_⟩) (by assumption) ?_
              rotate_left 1
              · (intro w hSw; (try dsimp only at hSw); (try go_split_ands); go_simp; try with_reducible rfl)
              try simp only [Act.put, List.setIfInBounds_toArray, List.set_cons_zero, List.set_cons_succ, List.getElem_toArray, List.getElem_cons_zero, List.getElem_cons_succ]
              refine wpAnyH_take (i := 40) (v := ?_) rfl (by kernel_rfl) (by kernel_rfl) (by kernel_rfl) (fun _ _ _ h => h) (Or.inl ⟨by rfl, ?_⟩) (by assumption) ?_
              rotate_left 1
              · (intro w hSw; (try dsimp only at hSw); (try go_split_ands); go_simp; try with_reducible rfl)
              try simp only [Act.put, List.setIfInBounds_toArray, List.set_cons_zero, List.set_cons_succ, List.getElem_toArray, List.getElem_cons_zero, List.getElem_cons_succ]
              refine wpAnyH_take (i := 41) (v := ?_) rfl (by kernel_rfl) (by kernel_rfl) (by kernel_rfl) (fun _ _ _ h => h) (Or.inl ⟨by rfl, ?_⟩) (by assumption) ?_
              rotate_left 1
              · (intro w hSw; (try dsimp only at hSw); (try go_split_ands); go_simp; try with_reducible rfl)
              try simp only [Act.put, List.setIfInBounds_toArray, List.set_cons_zero, List.set_cons_succ, List.getElem_toArray, List.getElem_cons_zero, List.getElem_cons_succ]
              refine wpAnyH_take (i := 42) (v := ?_) rfl (by kernel_rfl) (by kernel_rfl) (by kernel_rfl) (fun _ _ _ h => h) (Or.inl ⟨by rfl, ?_⟩) (by assumption) ?_
              rotate_left 1
              · (intro w hSw; (try dsimp only at hSw); (try go_split_ands); go_simp; try with_reducible rfl)
              try simp only [Act.put, List.setIfInBounds_toArray, List.set_cons_zero, List.set_cons_succ, List.getElem_toArray, List.getElem_cons_zero, List.getElem_cons_succ]
              refine wpAnyH_take (i := 43) (v := ?_) rfl (by kernel_rfl) (by kernel_rfl) (by kernel_rfl) (fun _ _ _ h => h) (Or.inl ⟨by rfl, ?_⟩) (by assumption) ?_
              rotate_left 1
              · (intro w hSw; (try dsimp only at hSw); (try go_split_ands); go_simp; try with_reducible rfl)
              try simp only [Act.put, List.setIfInBounds_toArray, List.set_cons_zero, List.set_cons_succ, List.getElem_toArray, List.getElem_cons_zero, List.getElem_cons_succ]
              refine wpAnyH_take (i := 45) (v := ?_) rfl (by kernel_rfl) (by kernel_rfl) (by kernel_rfl) (fun _ _ _ h => h) (Or.inl ⟨by rfl, ?_⟩) (by assumption) ?_
              rotate_left 1
              · (intro w hSw; (try dsimp only at hSw); (try go_split_ands); go_simp; try with_reducible rfl)
              try simp only [Act.put, List.setIfInBounds_toArray, List.set_cons_zero, List.set_cons_succ, List.getElem_toArray, List.getElem_cons_zero, List.getElem_cons_succ]
              refine wpAnyH_take (i := 46) (v := ?_) rfl (by kernel_rfl) (by kernel_rfl) (by kernel_rfl) (fun _ _ _ h => h) (Or.inl ⟨by rfl, ?_⟩) (by assumption) ?_
              rotate_left 1
              · (intro w hSw; (try dsimp only at hSw); (try go_split_ands); go_simp; try with_reducible rfl)
              try simp only [Act.put, List.setIfInBounds_toArray, List.set_cons_zero, List.set_cons_succ, List.getElem_toArray, List.getElem_cons_zero, List.getElem_cons_succ]
              refine wpAnyH_take (i := 47) (v := ?_) rfl (by kernel_rfl) (by kernel_rfl) (by kernel_rfl) (fun _ _ _ h => h) (Or.inl ⟨by rfl, ?_⟩) (by assumption) ?_
              rotate_left 1
              · (intro w hSw; (try dsimp only at hSw); (try go_split_ands); go_simp; try with_reducible rfl)
              try simp only [Act.put, List.setIfInBounds_toArray, List.set_cons_zero, List.set_cons_succ, List.getElem_toArray, List.getElem_cons_zero, List.getElem_cons_succ]
              refine wpAnyH_take (i := 48) (v := ?_) rfl (by kernel_rfl) (by kernel_rfl) (by kernel_rfl) (fun _ _ _ h => h) (Or.inl ⟨by rfl, ?_⟩) (by assumption) ?_
              rotate_left 1
              · (intro w hSw; (try dsimp only at hSw); (try go_split_ands); go_simp; try with_reducible rfl)
              try simp only [Act.put, List.setIfInBounds_toArray, List.set_cons_zero, List.set_cons_succ, List.getElem_toArray, List.getElem_cons_zero, List.getElem_cons_succ]
              refine wpAnyH_take (i := 49) (v := ?_) rfl (by kernel_rfl) (by kernel_rfl) (by kernel_rfl) (fun _ _ _ h => h) (Or.inl ⟨by rfl, ?_⟩) (by assumption) ?_
              rotate_left 1
              · (intro w hSw; (try dsimp only at hSw); (try go_split_ands); go_simp; try with_reducible rfl)
              try simp only [Act.put, List.setIfInBounds_toArray, List.set_cons_zero, List.set_cons_succ, List.getElem_toArray, List.getElem_cons_zero, List.getElem_cons_succ]
              refine wpAnyH_take (i := 50) (v := ?_) rfl (by kernel_rfl) (by kernel_rfl) (by kernel_rfl) (fun _ _ _ h => h) (Or.inl ⟨by rfl, ?_⟩) (by assumption) ?_
              rotate_left 1
              · (intro w hSw; (try dsimp only at hSw); (try go_split_ands); go_simp; try with_reducible rfl)
              try simp only [Act.put, List.setIfInBounds_toArray, List.set_cons_zero, List.set_cons_succ, List.getElem_toArray, List.getElem_cons_zero, List.getElem_cons_succ]
              refine wpAnyH_ready (rs := [44]) (by kernel_rfl) (by simp) ?_
              refine AllReadyH.cons rfl (fun K hK => ?_) AllReadyH.nil
              go_simp; go_at_call 14; refine (has_t1 x1 h2 G3.out.two hh2.out).mono ?_; rintro e1 u4 ⟨rfl, st4⟩; have G4 := Lib.hid (G3.out.below st4); have k4 := Lib.hid (k3.out.trans (st4.mono k3.out.size)); clear st4
              refine hK.out _ _ (HK.out _ k4.out) (fun hHeld => ?_)
              clear hK K
              try simp only [Act.put, List.setIfInBounds_toArray, List.set_cons_zero, List.set_cons_succ, List.getElem_toArray, List.getElem_cons_zero, List.getElem_cons_succ]
              refine wpAnyH_ready (rs := [51]) (by kernel_rfl) (by simp) ?_
              refine AllReadyH.cons rfl (fun K hK => ?_) AllReadyH.nil
              go_simp; go_at_call 20; refine (has_t2 x1 h2 G4.out.two hh2'.out).mono ?_; rintro e1 u5 ⟨rfl, st5⟩; have G5 := Lib.hid (G4.out.still st5); have k5 := Lib.hid (k4.out.trans (st5.below.mono k4.out.size)); clear st5
              refine hK.out _ _ (HK.out _ k5.out) (fun hHeld => ?_)
              clear hK K
              try simp only [Act.put, List.setIfInBounds_toArray, List.set_cons_zero, List.set_cons_succ, List.getElem_toArray, List.getElem_cons_zero, List.getElem_cons_succ]
              refine wpAnyH_take (i := 52) (v := ?_) rfl (by kernel_rfl) (by kernel_rfl) (by kernel_rfl) (fun _ _ _ h => h) (Or.inl ⟨by rfl, ?_⟩) (by assumption) ?_
              rotate_left 1
              · (intro w hSw; (try dsimp only at hSw); (try go_split_ands); go_simp; try with_reducible rfl)
              try simp only [Act.put, List.setIfInBounds_toArray, List.set_cons_zero, List.set_cons_succ, List.getElem_toArray, List.getElem_cons_zero, List.getElem_cons_succ]
              refine wpAnyH_take (i := 53) (v := ?_) rfl (by kernel_rfl) (by kernel_rfl) (by kernel_rfl) (fun _ _ _ h => h) (Or.inl ⟨by rfl, ?_⟩) (by assumption) ?_
              rotate_left 1
              · (intro w hSw; (try dsimp only at hSw); (try go_split_ands); go_simp; try with_reducible rfl)
              try simp only [Act.put, List.setIfInBounds_toArray, List.set_cons_zero, List.set_cons_succ, List.getElem_toArray, List.getElem_cons_zero, List.getElem_cons_succ]
              refine wpAnyH_done (by kernel_rfl) ?_ _
              clear hHeld
              go_wp2_with fail
              go_meet
              exact ⟨rfl, G5⟩
            · obtain rfl : ob = true := by rw [← hob.out, hl.out]; rfl
              obtain rfl : nn = y.hi := by rw [← hnn.out, hl.out]; rfl
              have hL1 : (0 : Int) < (L : Int) := by have h9 : (y :: tl).length = L := hL.out; rw [List.length_cons] at h9; omega
              have hL0 : decide ((0 : Int) < (L : Int)) = true := decide_eq_true hL1
              have hL2 : 0 < L := by omega
              have hL3 : decide (0 < L) = true := decide_eq_true hL2
              obtain ⟨g6, go6, hA6, _, q6⟩ := load_rg (Rd.of_ownS o6') (k := 0) (by simp)
              have hA60 : A6 = some ⟨g6, 0, none⟩ ∧ go6 = 0 := by
                rcases ownS_cases o6' with ⟨h1, _⟩ | ⟨g2, h1, _⟩
                · rw [h1] at hA6; cases hA6
                · rw [h1] at hA6 ⊢; injection hA6 with hA; injection hA with e1 e2; exact ⟨by rw [e1], e2.symm⟩
              obtain ⟨rfl, rfl⟩ := hA60
              simp only [Nat.zero_mul, Nat.zero_add, List.getElem_cons_zero] at q6
              have HK : Hid (∀ W, Below v3.heap.size v3 W → W.cell? ⟨b, off + k, none⟩ = some (.int .u64 x) ∧ W.cell? ⟨g6, 1, none⟩ = some (.int .u64 y.hi)) := Lib.hid (fun W bW => ⟨by rw [bW.cell (p := ⟨b, off + k, none⟩) (World.block_lt_of_cell? v3 _ g3)]; exact g3, by rw [bW.cell (p := ⟨g6, 1, none⟩) (World.block_lt_of_cell? v3 _ q6)]; exact q6⟩)
              have hcp6 : L ≤ c6 ∧ c6 ≤ 9223372036854775807 := by
                rcases ownS_cases o6' with ⟨h1, _⟩ | ⟨_, _, _, _, h1, h2⟩
                · cases h1
                · exact ⟨h1, by simpa [maxLen] using h2⟩
              go_wp2_with fail
              refine wp_region_held_drew (S := fun W => W.cell? ⟨b, off + k, none⟩ = some (.int .u64 x) ∧ W.cell? ⟨g6, 1, none⟩ = some (.int .u64 y.hi)) (by kernel_rfl) (HK.out _ (Still.drew _).below) (fun hHeld => ?_)
              refine wpAnyH_take (i := 0) (v := ?_) rfl (by kernel_rfl) (by kernel_rfl) (by kernel_rfl) (fun _ _ _ h => h) (Or.inl ⟨by rfl, ?_⟩) (by assumption) ?_
              rotate_left 1
              · (intro w hSw; (try dsimp only at hSw); (try go_split_ands); go_simp; try with_reducible rfl)
              try simp only [Act.put, List.setIfInBounds_toArray, List.set_cons_zero, List.set_cons_succ, List.getElem_toArray, List.getElem_cons_zero, List.getElem_cons_succ]
              refine wpAnyH_take (i := 1) (v := ?_) rfl (by kernel_rfl) (by kernel_rfl) (by kernel_rfl) (fun _ _ _ h => h) (Or.inl ⟨by rfl, ?_⟩) (by assumption) ?_
              rotate_left 1
              · (intro w hSw; (try dsimp only at hSw); (try go_split_ands); go_simp; try with_reducible rfl)
              try simp only [Act.put, List.setIfInBounds_toArray, List.set_cons_zero, List.set_cons_succ, List.getElem_toArray, List.getElem_cons_zero, List.getElem_cons_succ]
              refine wpAnyH_ready (rs := [2]) (by kernel_rfl) (by simp) ?_
              refine AllReadyH.cons rfl (fun K hK => ?_) AllReadyH.nil
              go_simp; go_at_call 13; refine (samer_n true (y :: tl) (y :: tl) L L hL.out hL.out A5 _ c5 c6 v3.drew R5.out R6.out hLm hLm (decide_eq_true rfl)).mono ?_; rintro e1 u1 ⟨rfl, st1⟩; have G1 := Lib.hid ((HG.out.still (Still.drew v3)).still st1); have k1 := Lib.hid (show Below v3.heap.size v3 u1 from ((Still.drew v3).trans st1).below); clear st1
              refine hK.out _ _ (HK.out _ k1.out) (fun hHeld => ?_)
              clear hK K
              try simp only [Act.put, List.setIfInBounds_toArray, List.set_cons_zero, List.set_cons_succ, List.getElem_toArray, List.getElem_cons_zero, List.getElem_cons_succ]
              refine wpAnyH_take (i := 3) (v := ?_) rfl (by kernel_rfl) (by kernel_rfl) (by kernel_rfl) (fun _ _ _ h => h) (Or.inl ⟨by rfl, ?_⟩) (by assumption) ?_
              rotate_left 1
              · (intro w hSw; (try dsimp only at hSw); (try go_split_ands); go_simp; try with_reducible rfl)
              try simp only [Act.put, List.setIfInBounds_toArray, List.set_cons_zero, List.set_cons_succ, List.getElem_toArray, List.getElem_cons_zero, List.getElem_cons_succ]
              refine wpAnyH_take (i := 4) (v := ?_) rfl (by kernel_rfl) (by kernel_rfl) (by kernel_rfl) (fun _ _ _ h => h) (Or.inl ⟨by rfl, ?_⟩) (by assumption) ?_
              rotate_left 1
              · (intro w hSw; (try dsimp only at hSw); (try go_split_ands); go_simp; try with_reducible rfl)
              try simp only [Act.put, List.setIfInBounds_toArray, List.set_cons_zero, List.set_cons_succ, List.getElem_toArray, List.getElem_cons_zero, List.getElem_cons_succ]
              refine wpAnyH_take (i := 5) (v := ?_) rfl (by kernel_rfl) (by kernel_rfl) (by kernel_rfl) (fun _ _ _ h => h) (Or.inl ⟨by rfl, ?_⟩) (by assumption) ?_
              rotate_left 1
              · (intro w hSw; (try dsimp only at hSw); (try go_split_ands); go_simp; try with_reducible rfl)
              try simp only [Act.put, List.setIfInBounds_toArray, List.set_cons_zero, List.set_cons_succ, List.getElem_toArray, List.getElem_cons_zero, List.getElem_cons_succ]
              refine wpAnyH_take (i := 6) (v := ?_) rfl (by kernel_rfl) (by kernel_rfl) (by kernel_rfl) (fun _ _ _ h => h) (Or.inl ⟨by rfl, ?_⟩) (by assumption) ?_
              rotate_left 1
              · (intro w hSw; (try dsimp only at hSw); (try go_split_ands); go_simp; try with_reducible rfl)
              try simp only [Act.put, List.setIfInBounds_toArray, List.set_cons_zero, List.set_cons_succ, List.getElem_toArray, List.getElem_cons_zero, List.getElem_cons_succ]
              refine wpAnyH_take (i := 7) (v := ?_) rfl (by kernel_rfl) (by kernel_rfl) (by kernel_rfl) (fun _ _ _ h => h) (Or.inl ⟨by rfl, ?_⟩) (by assumption) ?_
              rotate_left 1
              · (intro w hSw; (try dsimp only at hSw); (try go_split_ands); go_simp; try with_reducible rfl)
              try simp only [Act.put, List.setIfInBounds_toArray, List.set_cons_zero, List.set_cons_succ, List.getElem_toArray, List.getElem_cons_zero, List.getElem_cons_succ]
              refine wpAnyH_take (i := 8) (v := ?_) rfl (by kernel_rfl) (by kernel_rfl) (by kernel_rfl) (fun _ _ _ h => h) (Or.inl ⟨by rfl, ?_⟩) (by assumption) ?_
              rotate_left 1
              · (intro w hSw; (try dsimp only at hSw); (try go_split_ands); go_simp; try with_reducible rfl)
              try simp only [Act.put, List.setIfInBounds_toArray, List.set_cons_zero, List.set_cons_succ, List.getElem_toArray, List.getElem_cons_zero, List.getElem_cons_succ]
              refine wpAnyH_take (i := 9) (v := ?_) rfl (by kernel_rfl) (by kernel_rfl) (by kernel_rfl) (fun _ _ _ h => h) (Or.inl ⟨by rfl, ?_⟩) (by assumption) ?_
              rotate_left 1
              · (intro w hSw; (try dsimp only at hSw); (try go_split_ands); go_simp; try with_reducible rfl)
              try simp only [Act.put, List.setIfInBounds_toArray, List.set_cons_zero, List.set_cons_succ, List.getElem_toArray, List.getElem_cons_zero, List.getElem_cons_succ]
              refine wpAnyH_take (i := 10) (v := ?_) rfl (by kernel_rfl) (by kernel_rfl) (by kernel_rfl) (fun _ _ _ h => h) (Or.inl ⟨by rfl, ?_⟩) (by assumption) ?_
              rotate_left 1
              · (intro w hSw; (try dsimp only at hSw); (try go_split_ands); go_simp; try with_reducible rfl)
              try simp only [Act.put, List.setIfInBounds_toArray, List.set_cons_zero, List.set_cons_succ, List.getElem_toArray, List.getElem_cons_zero, List.getElem_cons_succ]
              refine wpAnyH_take (i := 11) (v := ?_) rfl (by kernel_rfl) (by kernel_rfl) (by kernel_rfl) (fun _ _ _ h => h) (Or.inl ⟨by rfl, ?_⟩) (by assumption) ?_
              rotate_left 1
              · (intro w hSw; (try dsimp only at hSw); (try go_split_ands); go_simp; try with_reducible rfl)
              try simp only [Act.put, List.setIfInBounds_toArray, List.set_cons_zero, List.set_cons_succ, List.getElem_toArray, List.getElem_cons_zero, List.getElem_cons_succ]
              refine wpAnyH_take (i := 12) (v := ?_) rfl (by kernel_rfl) (by kernel_rfl) (by kernel_rfl) (fun _ _ _ h => h) (Or.inl ⟨by rfl, ?_⟩) (by assumption) ?_
              rotate_left 1
              · (intro w hSw; (try dsimp only at hSw); (try go_split_ands); go_simp; try with_reducible rfl)
              try simp only [Act.put, List.setIfInBounds_toArray, List.set_cons_zero, List.set_cons_succ, List.getElem_toArray, List.getElem_cons_zero, List.getElem_cons_succ]
              refine wpAnyH_take (i := 13) (v := ?_) rfl (by kernel_rfl) (by kernel_rfl) (by kernel_rfl) (fun _ _ _ h => h) (Or.inl ⟨by rfl, ?_⟩) (by assumption) ?_
              rotate_left 1
              · (intro w hSw; (try dsimp only at hSw); (try go_split_ands); go_simp; try with_reducible rfl)
              try simp only [Act.put, List.setIfInBounds_toArray, List.set_cons_zero, List.set_cons_succ, List.getElem_toArray, List.getElem_cons_zero, List.getElem_cons_succ]
              refine wpAnyH_take (i := 14) (v := ?_) rfl (by kernel_rfl) (by kernel_rfl) (by kernel_rfl) (fun _ _ _ h => h) (Or.inl ⟨by rfl, ?_⟩) (by assumption) ?_
              rotate_left 1
              · (intro w hSw; (try dsimp only at hSw); (try go_split_ands); go_simp; try with_reducible rfl)
              try simp only [Act.put, List.setIfInBounds_toArray, List.set_cons_zero, List.set_cons_succ, List.getElem_toArray, List.getElem_cons_zero, List.getElem_cons_succ]
              refine wpAnyH_take (i := 15) (v := ?_) rfl (by kernel_rfl) (by kernel_rfl) (by kernel_rfl) (fun _ _ _ h => h) (Or.inl ⟨by rfl, ?_⟩) (by assumption) ?_
              rotate_left 1
              · (intro w hSw; (try dsimp only at hSw); (try go_split_ands); go_simp; try with_reducible rfl)
              try simp only [Act.put, List.setIfInBounds_toArray, List.set_cons_zero, List.set_cons_succ, List.getElem_toArray, List.getElem_cons_zero, List.getElem_cons_succ]
              refine wpAnyH_take (i := 16) (v := ?_) rfl (by kernel_rfl) (by kernel_rfl) (by kernel_rfl) (fun _ _ _ h => h) (Or.inl ⟨by rfl, ?_⟩) (by assumption) ?_
              rotate_left 1
              · (intro w hSw; (try dsimp only at hSw); (try go_split_ands); go_simp; try with_reducible rfl)
              try simp only [Act.put, List.setIfInBounds_toArray, List.set_cons_zero, List.set_cons_succ, List.getElem_toArray, List.getElem_cons_zero, List.getElem_cons_succ]
              refine wpAnyH_take (i := 17) (v := ?_) rfl (by kernel_rfl) (by kernel_rfl) (by kernel_rfl) (fun _ _ _ h => h) (Or.inl ⟨by rfl, ?_⟩) (by assumption) ?_
              rotate_left 1
              · (intro w hSw; (try dsimp only at hSw); (try go_split_ands); go_simp; try with_reducible rfl)
              try simp only [Act.put, List.setIfInBounds_toArray, List.set_cons_zero, List.set_cons_succ, List.getElem_toArray, List.getElem_cons_zero, List.getElem_cons_succ]
              refine wpAnyH_take (i := 18) (v := ?_) rfl (by kernel_rfl) (by kernel_rfl) (by kernel_rfl) (fun _ _ _ h => h) (Or.inl ⟨by rfl, ?_⟩) (by assumption) ?_
              rotate_left 1
              · (intro w hSw; (try dsimp only at hSw); (try go_split_ands); go_simp; try with_reducible rfl)
              try simp only [Act.put, List.setIfInBounds_toArray, List.set_cons_zero, List.set_cons_succ, List.getElem_toArray, List.getElem_cons_zero, List.getElem_cons_succ]
              refine wpAnyH_take (i := 19) (v := ?_) rfl (by kernel_rfl) (by kernel_rfl) (by kernel_rfl) (fun _ _ _ h => h) (Or.inl ⟨by rfl, ?_⟩) (by assumption) ?_
              rotate_left 1
              · (intro w hSw; (try dsimp only at hSw); (try go_split_ands); go_simp; try with_reducible rfl)
              try simp only [Act.put, List.setIfInBounds_toArray, List.set_cons_zero, List.set_cons_succ, List.getElem_toArray, List.getElem_cons_zero, List.getElem_cons_succ]
              refine wpAnyH_take (i := 20) (v := ?_) rfl (by kernel_rfl) (by kernel_rfl) (by kernel_rfl) (fun _ _ _ h => h) (Or.inl ⟨by rfl, ?_⟩) (by assumption) ?_
              rotate_left 1
              · (intro w hSw; (try dsimp only at hSw); (try go_split_ands); go_simp; try with_reducible rfl)
              try simp only [Act.put, List.setIfInBounds_toArray, List.set_cons_zero, List.set_cons_succ, List.getElem_toArray, List.getElem_cons_zero, List.getElem_cons_succ]
              refine wpAnyH_take (i := 21) (v := ?_) rfl (by kernel_rfl) (by kernel_rfl) (by kernel_rfl) (fun _ _ _ h => h) (Or.inl ⟨by rfl, ?_⟩) (by assumption) ?_
              rotate_left 1
              · (intro w hSw; (try dsimp only at hSw); (try go_split_ands); go_simp; try with_reducible rfl)
              try simp only [Act.put, List.setIfInBounds_toArray, List.set_cons_zero, List.set_cons_succ, List.getElem_toArray, List.getElem_cons_zero, List.getElem_cons_succ]
              refine wpAnyH_take (i := 22) (v := ?_) rfl (by kernel_rfl) (by kernel_rfl) (by kernel_rfl) (fun _ _ _ h => h) (Or.inl ⟨by rfl, ?_⟩) (by assumption) ?_
              rotate_left 1
              · (intro w hSw; (try dsimp only at hSw); (try go_split_ands); go_simp; try with_reducible rfl)
              try simp only [Act.put, List.setIfInBounds_toArray, List.set_cons_zero, List.set_cons_succ, List.getElem_toArray, List.getElem_cons_zero, List.getElem_cons_succ]
              refine wpAnyH_take (i := 23) (v := ?_) rfl (by kernel_rfl) (by kernel_rfl) (by kernel_rfl) (fun _ _ _ h => h) (Or.inl ⟨by rfl, ?_⟩) (by assumption) ?_
              rotate_left 1
              · (intro w hSw; (try dsimp only at hSw); (try go_split_ands); go_simp; try with_reducible rfl)
              try simp only [Act.put, List.setIfInBounds_toArray, List.set_cons_zero, List.set_cons_succ, List.getElem_toArray, List.getElem_cons_zero, List.getElem_cons_succ]
              refine wpAnyH_take (i := 24) (v := ?_) rfl (by kernel_rfl) (by kernel_rfl) (by kernel_rfl) (fun _ _ _ h => h) (Or.inl ⟨by rfl, ?_⟩) (by assumption) ?_
              rotate_left 1
              · (intro w hSw; (try dsimp only at hSw); (try go_split_ands); go_simp; try with_reducible rfl)
              try simp only [Act.put, List.setIfInBounds_toArray, List.set_cons_zero, List.set_cons_succ, List.getElem_toArray, List.getElem_cons_zero, List.getElem_cons_succ]
              refine wpAnyH_take (i := 25) (v := ?_) rfl (by kernel_rfl) (by kernel_rfl) (by kernel_rfl) (fun _ _ _ h => h) (Or.inl ⟨by rfl, ?_⟩) (by assumption) ?_
              rotate_left 1
              · (intro w hSw; (try dsimp only at hSw); (try go_split_ands); go_simp; try with_reducible rfl)
              try simp only [Act.put, List.setIfInBounds_toArray, List.set_cons_zero, List.set_cons_succ, List.getElem_toArray, List.getElem_cons_zero, List.getElem_cons_succ]
              refine wpAnyH_take (i := 26) (v := ?_) rfl (by kernel_rfl) (by kernel_rfl) (by kernel_rfl) (fun _ _ _ h => h) (Or.inl ⟨by rfl, ?_⟩) (by assumption) ?_
              rotate_left 1
              · (intro w hSw; (try dsimp only at hSw); (try go_split_ands); go_simp; try with_reducible rfl)
              try simp only [Act.put, List.setIfInBounds_toArray, List.set_cons_zero, List.set_cons_succ, List.getElem_toArray, List.getElem_cons_zero, List.getElem_cons_succ]
              refine wpAnyH_take (i := 27) (v := ?_) rfl (by kernel_rfl) (by kernel_rfl) (by kernel_rfl) (fun _ _ _ h => h) (Or.inl ⟨by rfl, ?_⟩) (by assumption) ?_
              rotate_left 1
              · (intro w hSw; (try dsimp only at hSw); (try go_split_ands); go_simp; try with_reducible rfl)
              try simp only [Act.put, List.setIfInBounds_toArray, List.set_cons_zero, List.set_cons_succ, List.getElem_toArray, List.getElem_cons_zero, List.getElem_cons_succ]
              refine wpAnyH_take (i := 29) (v := ?_) rfl (by kernel_rfl) (by kernel_rfl) (by kernel_rfl) (fun _ _ _ h => h) (Or.inl ⟨by rfl, ?_⟩) (by assumption) ?_
              rotate_left 1
              · (intro w hSw; (try dsimp only at hSw); (try go_split_ands); go_simp; try with_reducible rfl)
              try simp only [Act.put, List.setIfInBounds_toArray, List.set_cons_zero, List.set_cons_succ, List.getElem_toArray, List.getElem_cons_zero, List.getElem_cons_succ]
              refine wpAnyH_take (i := 30) (v := ?_) rfl (by kernel_rfl) (by kernel_rfl) (by kernel_rfl) (fun _ _ _ h => h) (Or.inl ⟨by rfl, ?_⟩) (by assumption) ?_
              rotate_left 1
              · (intro w hSw; (try dsimp only at hSw); (try go_split_ands); go_simp; try with_reducible rfl)
              try simp only [Act.put, List.setIfInBounds_toArray, List.set_cons_zero, List.set_cons_succ, List.getElem_toArray, List.getElem_cons_zero, List.getElem_cons_succ]
              refine wpAnyH_take (i := 31) (v := ?_) rfl (by kernel_rfl) (by kernel_rfl) (by kernel_rfl) (fun _ _ _ h => h) (Or.inl ⟨by rfl, ?_⟩) (by assumption) ?_
              rotate_left 1
              · (intro w hSw; (try dsimp only at hSw); (try go_split_ands); go_simp; try with_reducible rfl)
              try simp only [Act.put, List.setIfInBounds_toArray, List.set_cons_zero, List.set_cons_succ, List.getElem_toArray, List.getElem_cons_zero, List.getElem_cons_succ]
              refine wpAnyH_take (i := 32) (v := ?_) rfl (by kernel_rfl) (by kernel_rfl) (by kernel_rfl) (fun _ _ _ h => h) (Or.inl ⟨by rfl, ?_⟩) (by assumption) ?_
              rotate_left 1
              · (intro w hSw; (try dsimp only at hSw); (try go_split_ands); go_simp; try with_reducible rfl)
              try simp only [Act.put, List.setIfInBounds_toArray, List.set_cons_zero, List.set_cons_succ, List.getElem_toArray, List.getElem_cons_zero, List.getElem_cons_succ]
              refine wpAnyH_take (i := 33) (v := ?_) rfl (by kernel_rfl) (by kernel_rfl) (by kernel_rfl) (fun _ _ _ h => h) (Or.inl ⟨by rfl, ?_⟩) (by assumption) ?_
              rotate_left 1
              · (intro w hSw; (try dsimp only at hSw); (try go_split_ands); go_simp; try with_reducible rfl)
              try simp only [Act.put, List.setIfInBounds_toArray, List.set_cons_zero, List.set_cons_succ, List.getElem_toArray, List.getElem_cons_zero, List.getElem_cons_succ]
              refine wpAnyH_ready (rs := [28]) (by kernel_rfl) (by simp) ?_
              refine AllReadyH.cons rfl (fun K hK => ?_) AllReadyH.nil
              go_simp; go_at_call 14; refine (has_t1 x h1 G1.out.two hh1.out).mono ?_; rintro e1 u2 ⟨rfl, st2⟩; have G2 := Lib.hid (G1.out.below st2); have k2 := Lib.hid (k1.out.trans (st2.mono k1.out.size)); clear st2
              refine hK.out _ _ (HK.out _ k2.out) (fun hHeld => ?_)
              clear hK K
              try simp only [Act.put, List.setIfInBounds_toArray, List.set_cons_zero, List.set_cons_succ, List.getElem_toArray, List.getElem_cons_zero, List.getElem_cons_succ]
              refine wpAnyH_ready (rs := [34]) (by kernel_rfl) (by simp) ?_
              refine AllReadyH.cons rfl (fun K hK => ?_) AllReadyH.nil
              go_simp; go_at_call 20; refine (has_t2 x h1 G2.out.two hh1'.out).mono ?_; rintro e1 u3 ⟨rfl, st3⟩; have G3 := Lib.hid (G2.out.still st3); have k3 := Lib.hid (k2.out.trans (st3.below.mono k2.out.size)); clear st3
              refine hK.out _ _ (HK.out _ k3.out) (fun hHeld => ?_)
              clear hK K
              try simp only [Act.put, List.setIfInBounds_toArray, List.set_cons_zero, List.set_cons_succ, List.getElem_toArray, List.getElem_cons_zero, List.getElem_cons_succ]
              refine wpAnyH_take (i := 35) (v := ?_) rfl (by kernel_rfl) (by kernel_rfl) (by kernel_rfl) (fun _ _ _ h => h) (Or.inl ⟨by rfl, ?_⟩) (by assumption) ?_
              rotate_left 1
              · (intro w hSw; (try dsimp only at hSw); (try go_split_ands); go_simp; try with_reducible rfl)
              try simp only [Act.put, List.setIfInBounds_toArray, List.set_cons_zero, List.set_cons_succ, List.getElem_toArray, List.getElem_cons_zero, List.getElem_cons_succ]
              refine wpAnyH_take (i := 36) (v := ?_) rfl (by kernel_rfl) (by kernel_rfl) (by kernel_rfl) (fun _ _ _ h => h) (Or.inl ⟨by rfl, ?_⟩) (by assumption) ?_
              rotate_left 1
              · (intro w hSw; (try dsimp only at hSw); (try go_split_ands); go_simp; try with_reducible rfl)
              try simp only [Act.put, List.setIfInBounds_toArray, List.set_cons_zero, List.set_cons_succ, List.getElem_toArray, List.getElem_cons_zero, List.getElem_cons_succ]
              refine wpAnyH_take (i := 37) (v := ?_) rfl (by kernel_rfl) (by kernel_rfl) (by kernel_rfl) (fun _ _ _ h => h) (Or.inl ⟨by rfl, ?_⟩) (by assumption) ?_
              rotate_left 1
              · (intro w hSw; (try dsimp only at hSw); (try go_split_ands); go_simp; try with_reducible rfl)
              try simp only [Act.put, List.setIfInBounds_toArray, List.set_cons_zero, List.set_cons_succ, List.getElem_toArray, List.getElem_cons_zero, List.getElem_cons_succ]
              refine wpAnyH_take (i := 38) (v := ?_) rfl (by kernel_rfl) (by kernel_rfl) (by kernel_rfl) (fun _ _ _ h => h) (Or.inl ⟨by rfl, ?_⟩) (by assumption) ?_
              rotate_left 1
              · (intro w hSw; (try dsimp only at hSw); (try go_split_ands); go_simp; try with_reducible rfl)
              try simp only [Act.put, List.setIfInBounds_toArray, List.set_cons_zero, List.set_cons_succ, List.getElem_toArray, List.getElem_cons_zero, List.getElem_cons_succ]
              refine wpAnyH_take (i := 39) (v := ?_) rfl (by kernel_rfl) (by kernel_rfl) (by kernel_rfl) (fun _ _ _ h => h) (Or.inl ⟨by rfl, ?_⟩) (by assumption) ?_
              rotate_left 1
              · (intro w hSw; (try dsimp only at hSw); (try go_split_ands); go_simp; try with_reducible rfl)
              try simp only [Act.put, List.setIfInBounds_toArray, List.set_cons_zero, List.set_cons_succ, List.getElem_toArray, List.getElem_cons_zero, List.getElem_cons_succ]
              refine wpAnyH_take (i := 40) (v := ?_) rfl (by kernel_rfl) (by kernel_rfl) (by kernel_rfl) (fun _ _ _ h => h) (Or.inl ⟨by rfl, ?_⟩) (by assumption) ?_
              rotate_left 1
              · (intro w hSw; (try dsimp only at hSw); (try go_split_ands); go_simp; try with_reducible rfl)
              try simp only [Act.put, List.setIfInBounds_toArray, List.set_cons_zero, List.set_cons_succ, List.getElem_toArray, List.getElem_cons_zero, List.getElem_cons_succ]
              refine wpAnyH_take (i := 41) (v := ?_) rfl (by kernel_rfl) (by kernel_rfl) (by kernel_rfl) (fun _ _ _ h => h) (Or.inl ⟨by rfl, ?_⟩) (by assumption) ?_
              rotate_left 1
              · (intro w hSw; (try dsimp only at hSw); (try go_split_ands); go_simp; try with_reducible rfl)
              try simp only [Act.put, List.setIfInBounds_toArray, List.set_cons_zero, List.set_cons_succ, List.getElem_toArray, List.getElem_cons_zero, List.getElem_cons_succ]
              refine wpAnyH_take (i := 42) (v := ?_) rfl (by kernel_rfl) (by kernel_rfl) (by kernel_rfl) (fun _ _ _ h => h) (Or.inl ⟨by rfl, ?_⟩) (by assumption) ?_
              rotate_left 1
              · (intro w hSw; (try dsimp only at hSw); (try go_split_ands); go_simp; try with_reducible rfl)
              try simp only [Act.put, List.setIfInBounds_toArray, List.set_cons_zero, List.set_cons_succ, List.getElem_toArray, List.getElem_cons_zero, List.getElem_cons_succ]
              refine wpAnyH_take (i := 43) (v := ?_) rfl (by kernel_rfl) (by kernel_rfl) (by kernel_rfl) (fun _ _ _ h => h) (Or.inl ⟨by rfl, ?_⟩) (by assumption) ?_
              rotate_left 1
              · (intro w hSw; (try dsimp only at hSw); (try go_split_ands); go_simp; try with_reducible rfl)
              try simp only [Act.put, List.setIfInBounds_toArray, List.set_cons_zero, List.set_cons_succ, List.getElem_toArray, List.getElem_cons_zero, List.getElem_cons_succ]
              refine wpAnyH_take (i := 45) (v := ?_) rfl (by kernel_rfl) (by kernel_rfl) (by kernel_rfl) (fun _ _ _ h => h) (Or.inl ⟨by rfl, ?_⟩) (by assumption) ?_
              rotate_left 1
              · (intro w hSw; (try dsimp only at hSw); (try go_split_ands); go_simp; try with_reducible rfl)
              try simp only [Act.put, List.setIfInBounds_toArray, List.set_cons_zero, List.set_cons_succ, List.getElem_toArray, List.getElem_cons_zero, List.getElem_cons_succ]
              refine wpAnyH_take (i := 46) (v := ?_) rfl (by kernel_rfl) (by kernel_rfl) (by kernel_rfl) (fun _ _ _ h => h) (Or.inl ⟨by rfl, ?_⟩) (by assumption) ?_
              rotate_left 1
              · (intro w hSw; (try dsimp only at hSw); (try go_split_ands); go_simp; try with_reducible rfl)
              try simp only [Act.put, List.setIfInBounds_toArray, List.set_cons_zero, List.set_cons_succ, List.getElem_toArray, List.getElem_cons_zero, List.getElem_cons_succ]
              refine wpAnyH_take (i := 47) (v := ?_) rfl (by kernel_rfl) (by kernel_rfl) (by kernel_rfl) (fun _ _ _ h => h) (Or.inl ⟨by rfl, ?_⟩) (by assumption) ?_
              rotate_left 1
              · (intro w hSw; (try dsimp only at hSw); (try go_split_ands); go_simp; try with_reducible rfl)
              try simp only [Act.put, List.setIfInBounds_toArray, List.set_cons_zero, List.set_cons_succ, List.getElem_toArray, List.getElem_cons_zero, List.getElem_cons_succ]
              refine wpAnyH_take (i := 48) (v := ?_) rfl (by kernel_rfl) (by kernel_rfl) (by kernel_rfl) (fun _ _ _ h => h) (Or.inl ⟨by rfl, ?_⟩) (by assumption) ?_
              rotate_left 1
              · (intro w hSw; (try dsimp only at hSw); (try go_split_ands); go_simp; try with_reducible rfl)
              try simp only [Act.put, List.setIfInBounds_toArray, List.set_cons_zero, List.set_cons_succ, List.getElem_toArray, List.getElem_cons_zero, List.getElem_cons_succ]
              refine wpAnyH_take (i := 49) (v := ?_) rfl (by kernel_rfl) (by kernel_rfl) (by kernel_rfl) (fun _ _ _ h => h) (Or.inl ⟨by rfl, ?_⟩) (by assumption) ?_
              rotate_left 1
              · (intro w hSw; (try dsimp only at hSw); (try go_split_ands); go_simp; try with_reducible rfl)
              try simp only [Act.put, List.setIfInBounds_toArray, List.set_cons_zero, List.set_cons_succ, List.getElem_toArray, List.getElem_cons_zero, List.getElem_cons_succ]
              refine wpAnyH_take (i := 50) (v := ?_) rfl (by kernel_rfl) (by kernel_rfl) (by kernel_rfl) (fun _ _ _ h => h) (Or.inl ⟨by rfl, ?_⟩) (by assumption) ?_
              rotate_left 1
              · (intro w hSw; (try dsimp only at hSw); (try go_split_ands); go_simp; try with_reducible rfl)
              try simp only [Act.put, List.setIfInBounds_toArray, List.set_cons_zero, List.set_cons_succ, List.getElem_toArray, List.getElem_cons_zero, List.getElem_cons_succ]
              refine wpAnyH_ready (rs := [44]) (by kernel_rfl) (by simp) ?_
              refine AllReadyH.cons rfl (fun K hK => ?_) AllReadyH.nil
              go_simp; go_at_call 14; refine (has_t1 x1 h2 G3.out.two hh2.out).mono ?_; rintro e1 u4 ⟨rfl, st4⟩; have G4 := Lib.hid (G3.out.below st4); have k4 := Lib.hid (k3.out.trans (st4.mono k3.out.size)); clear st4
              refine hK.out _ _ (HK.out _ k4.out) (fun hHeld => ?_)
              clear hK K
              try simp only [Act.put, List.setIfInBounds_toArray, List.set_cons_zero, List.set_cons_succ, List.getElem_toArray, List.getElem_cons_zero, List.getElem_cons_succ]
              refine wpAnyH_ready (rs := [51]) (by kernel_rfl) (by simp) ?_
              refine AllReadyH.cons rfl (fun K hK => ?_) AllReadyH.nil
              go_simp; go_at_call 20; refine (has_t2 x1 h2 G4.out.two hh2'.out).mono ?_; rintro e1 u5 ⟨rfl, st5⟩; have G5 := Lib.hid (G4.out.still st5); have k5 := Lib.hid (k4.out.trans (st5.below.mono k4.out.size)); clear st5
              refine hK.out _ _ (HK.out _ k5.out) (fun hHeld => ?_)
              clear hK K
              try simp only [Act.put, List.setIfInBounds_toArray, List.set_cons_zero, List.set_cons_succ, List.getElem_toArray, List.getElem_cons_zero, List.getElem_cons_succ]
              refine wpAnyH_take (i := 52) (v := ?_) rfl (by kernel_rfl) (by kernel_rfl) (by kernel_rfl) (fun _ _ _ h => h) (Or.inl ⟨by rfl, ?_⟩) (by assumption) ?_
              rotate_left 1
              · (intro w hSw; (try dsimp only at hSw); (try go_split_ands); go_simp; try with_reducible rfl)
              try simp only [Act.put, List.setIfInBounds_toArray, List.set_cons_zero, List.set_cons_succ, List.getElem_toArray, List.getElem_cons_zero, List.getElem_cons_succ]
              refine wpAnyH_take (i := 53) (v := ?_) rfl (by kernel_rfl) (by kernel_rfl) (by kernel_rfl) (fun _ _ _ h => h) (Or.inl ⟨by rfl, ?_⟩) (by assumption) ?_
              rotate_left 1
              · (intro w hSw; (try dsimp only at hSw); (try go_split_ands); go_simp; try with_reducible rfl)
              try simp only [Act.put, List.setIfInBounds_toArray, List.set_cons_zero, List.set_cons_succ, List.getElem_toArray, List.getElem_cons_zero, List.getElem_cons_succ]
              refine wpAnyH_done (by kernel_rfl) ?_ _
              clear hHeld
              go_wp2_with fail
              go_meet
              exact ⟨rfl, G5⟩
          case rest =>
            obtain ⟨rfl, HR⟩ := hcut
            have hrl : (rgv l).length = L * 2 := by rw [rgv_len, hL.out]
            have HO := Lib.hid (⟨_, hrl, HR.out⟩ : ∃ xs : List Value, xs.length = L * 2 ∧ RGot p w _ p q (.slice A5 L c5) L xs s' r')
            clear HR hrl HG o6' R5 R6 hh1 hh2 hh1' hh2' e1 e2 e3 g3 fin hx1 hll hl hnn hob hLm
            replace hlen2 := Lib.hid hlen2
            go_wp2_with fail
            go_loopw [16] (fun i wq => ∃ j : Nat, j ≤ L ∧ i = .int .i64 j ∧ Hid (∃ xs : List Value, xs.length = L * 2 ∧ RGot p w wq p q (.slice A5 L c5) L xs s' r')) (fun i _ => L - (intOf i).toNat)
            case atStart => exact ⟨0, by omega, rfl, HO⟩
            case round =>
              clear HO
              obtain ⟨j, hj, rfl, HO⟩ := hrel
              by_cases hjq : j < L
              · rename_i aa; clear aa
                obtain ⟨xs, hxs, H1⟩ := HO.out
                obtain ⟨g, hA⟩ : ∃ g, A5 = some ⟨g, 0, none⟩ := by
                  rcases ownS_cases H1.own with ⟨_, h2, _⟩ | ⟨g, h1, _⟩
                  · omega
                  · exact ⟨g, h1⟩
                subst hA
                have o1 := H1.own
                have z0 := o1.cellAt (j * 2) (by omega)
                rw [List.getElem?_eq_getElem (by omega)] at z0
                obtain ⟨u, hu⟩ : ∃ u, some (xs[j * 2]'(by omega)) = some u := ⟨_, rfl⟩
                rw [hu] at z0
                have z1 := o1.frozenAt (j * 2)
                have HF := Lib.hid (H1.put hxs (j * 2) (.int .u64 77) hlo5.out)
                have hjI : (j : Int) < (L : Int) := by omega
                replace hu := Lib.hid hu
                replace hxs := Lib.hid hxs
                clear HO H1 o1
                go_wp2_with fail
                go_roundw
                case rel => exact ⟨j + 1, by omega, by go_num, Lib.hid (HF.out _ rfl)⟩
                case measure => simp [intOf]; omega
              · have HM2 := Lib.hid HO.out
                clear HO
                go_wp2_with fail
                go_roundw
                case rel => exact ⟨k + 1, s', r', by omega, by go_num, Lib.hid (by obtain ⟨xs, _, H1⟩ := HM2.out; exact H1.back hlen2.out)⟩
                case measure => simp [intOf]; omega
    · have hb := Lib.hid HM.out.bel
      have hlt := HM.out.lt
      clear HM
      go_wp2_with fail
      refine (awake_any wr).mono ?_
      rintro e w5 ⟨rfl, b5⟩
      go_wp2_with fail
      go_ret
      exact ⟨rfl, by rw [hp.out]; exact hb.out.trans (b5.mono hlt)⟩
end Go.Proofs.Ytdhdnpagdflgpaa
