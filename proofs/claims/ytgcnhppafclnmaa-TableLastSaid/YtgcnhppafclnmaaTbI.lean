/- TableLast: it is true at every input. -/
import Derived.Test.YtgcnhppafclnmaaTbH
import Derived.Deep.RegionHeld3
import Derived.Deep.CutRange
import Derived.Test.YtgcnhppafclnmaaStr
namespace Go.Proofs.Ytgcnhppafclnmaa
open Go.RowKit

def nf (n : Nat) : Value := .string (nmv n)
def lf (gs : List Int) (k n : Nat) : Value := .int .i64 (li gs n k)
/-- What the first loop's rounds know. -/
structure LaSt (B : Nat) (P : Nat → Prop) (w : World) (p gn gl most k : Nat) (gs : List Int) : Prop where
  at_ : At IsTbS P w p (tall most (lfl gs) k)
  nm : AtArrV 9 0 w gn 4 nf
  la : AtArrV 3 0 w gl 4 (lf gs k)
theorem lf_put (gs : List Int) (k : Nat) : ∀ y, (if y = la gs 4 k then Value.int .i64 (k : Int) else lf gs k y) = lf gs (k + 1) y := by
  intro y
  unfold lf
  show _ = Value.int .i64 (if la gs 4 k = y then (k : Int) else li gs y k)
  by_cases h : y = la gs 4 k
  · rw [if_pos h, if_pos h.symm]
  · rw [if_neg h, if_neg (fun e => h e.symm)]

set_option maxRecDepth 100000 in
set_option maxHeartbeats 8000000 in
theorem last_in (gs : List Int) (m0 : Int) (A : Option Addr) (cap n : Nat) (w : World) (hn : gs.length = n) (hr : Rd w A (gs.map (Value.int .i64))) (hn40 : n ≤ 40) :
    Calls Try.prog 5 #[.slice A n cap, .int .i64 m0] w fun e w' => e = .returned (.bool true) ∧ Below w.heap.size w w' := by
  have b1 : decide ((40 : Int) < (n : Int)) = false := decide_eq_false (by omega)
  obtain ⟨d, hd, L1⟩ := low_ex m0 473 (by omega) (by omega)
  obtain ⟨most, hmost⟩ : ∃ most, 40 + d = most := ⟨_, rfl⟩
  have hmI : 40 + (d : Int) = (most : Int) := by omega
  have hm40 : 40 ≤ most := by omega
  have hm512 : most ≤ 512 := by omega
  replace L1 := Lib.hid L1
  have HR := Lib.hid hr
  replace hn := Lib.hid hn
  clear hr hmost
  go_enter Try.func5, Try.ntmps5
  go_wp2_with fail
  refine (L1.out _).mono ?_
  rintro e w1 ⟨rfl, rfl⟩
  clear L1
  go_wp2_with fail
  refine (tnew_at (fun k => k < w.heap.size) w (fun _ h => h) most hm512).mono ?_
  rintro e w1 ⟨p, rfl, H, hb⟩
  replace H := Lib.hid H
  replace hb := Lib.hid hb
  have hw1 := hb.out.size
  obtain ⟨gn, hgn⟩ : ∃ gn, w1.heap.size = gn := ⟨_, rfl⟩
  obtain ⟨P, hP⟩ : ∃ P : Nat → Prop, (fun k => k < w.heap.size ∨ k = gn ∨ k = gn + 1) = P := ⟨_, rfl⟩
  have HS : Hid (∀ W, W = (w1.alloc (.cells #[.string ⟨#[97]⟩, .string ⟨#[98, 99]⟩, .string ⟨#[100, 45, 101]⟩, .string ⟨#[120]⟩] 9)).alloc (.cells #[.int .i64 (-1), .int .i64 (-1), .int .i64 (-1), .int .i64 (-1)] 3) → LaSt w.heap.size P W p gn (gn + 1) most 0 gs ∧ Below w.heap.size w W) := Lib.hid (by
    rintro W rfl
    have ba := (Below.refl _ w1).alloc (Nat.le_refl _) (.cells #[.string ⟨#[97]⟩, .string ⟨#[98, 99]⟩, .string ⟨#[100, 45, 101]⟩, .string ⟨#[120]⟩] 9)
    have bb := ba.alloc ba.size (.cells #[.int .i64 (-1), .int .i64 (-1), .int .i64 (-1), .int .i64 (-1)] 3)
    have n1 := AtArrV.new 9 w1 4 nf (by omega) #[.string ⟨#[97]⟩, .string ⟨#[98, 99]⟩, .string ⟨#[100, 45, 101]⟩, .string ⟨#[120]⟩] rfl
    have n2 := AtArrV.new 3 (w1.alloc (.cells #[.string ⟨#[97]⟩, .string ⟨#[98, 99]⟩, .string ⟨#[100, 45, 101]⟩, .string ⟨#[120]⟩] 9)) 4 (lf gs 0) (by omega) #[.int .i64 (-1), .int .i64 (-1), .int .i64 (-1), .int .i64 (-1)] rfl
    rw [hgn] at n1
    rw [World.size_alloc, hgn] at n2
    refine ⟨⟨H.out.widen tbOk (fun k hk => ?_) bb (fun k hk => ?_), n1.below ((Below.refl _ _).alloc (Nat.le_refl _) _), n2⟩, hb.out.trans (bb.mono hw1)⟩
    · rw [← hP] at hk
      rcases hk with h | h | h
      · exact .inl h
      · exact .inr (by omega)
      · exact .inr (by omega)
    · rw [← hP] at hk
      simp only [World.size_alloc]
      rcases hk with h | h | h <;> omega)
  have HP : Hid ((∀ k, k < w.heap.size → P k) ∧ P gn ∧ P (gn + 1) ∧ w.heap.size ≤ gn) := Lib.hid (by
    rw [← hP]
    exact ⟨fun k h => .inl h, .inr (.inl rfl), .inr (.inr rfl), by omega⟩)
  replace hgn := Lib.hid hgn
  clear hP H hb hw1
  go_wp2_with fail
  rw [hgn.out]
  clear b1
  obtain ⟨gl, hgl⟩ : ∃ gl, gn + 1 = gl := ⟨_, rfl⟩
  have hS0 := HS.out _ rfl
  rw [hgl] at hS0 HP ⊢
  replace hgl := Lib.hid hgl
  replace hS0 := Lib.hid hS0
  clear HS hgn
  go_loopw [8] (fun i wr => ∃ (k : Nat), k ≤ n ∧ i = .int .i64 k ∧ Hid (LaSt w.heap.size P wr p gn gl most k gs) ∧ Hid (Below w.heap.size w wr)) (fun i _ => n - (intOf i).toNat)
  case atStart => exact ⟨0, by omega, rfl, Lib.hid hS0.out.1, Lib.hid hS0.out.2⟩
  case round =>
    clear hS0
    obtain ⟨k, hk, rfl, HS, hb⟩ := hrel
    by_cases hkn : k < n
    · obtain ⟨b, off, rfl, hcell⟩ := (HR.out.below hb.out).at_ (k := k) (by simp; have := hn.out; omega)
      rw [List.getElem_map] at hcell
      obtain ⟨x, hx⟩ : ∃ x, gs[k]'(by have := hn.out; omega) = x := ⟨_, rfl⟩
      rw [hx] at hcell
      have La := la_low gs 4 k x (by rw [← hx]; exact List.getElem?_eq_getElem _) (by omega) (by omega)
      have ha4 := la_lt gs 4 k (by omega) (by omega)
      have hput := lf_put gs k
      have htt : (tall most (lfl gs) k).ins ⟨nmv (la gs 4 k), dg k⟩ = tall most (lfl gs) (k + 1) := rfl
      obtain ⟨a, ha⟩ : ∃ a, la gs 4 k = a := ⟨_, rfl⟩
      rw [ha] at La ha4 hput htt
      have haI : (a : Int) < 4 := by omega
      have hk40 : k ≤ 40 := by omega
      obtain ⟨r, hr10⟩ : ∃ r, k % 10 = r := ⟨_, rfl⟩
      have hr1 : (k : Int) % 10 = (r : Int) := by omega
      have hr1t : (k : Int).tmod 10 = (r : Int) := by rw [← hr10]; rfl
      have hr2 : r < 10 := by omega
      obtain ⟨c, hc⟩ : ∃ c, 48 + r = c := ⟨_, rfl⟩
      have hc1 : 48 + (r : Int) = (c : Int) := by omega
      have hc8 : IntKind.u8.wrap (c : Int) = (c : Int) := by rw [IntKind.wrap_u8]; omega
      have hc9 : IntKind.i64.wrap (c : Int) = (c : Int) := by rw [IntKind.wrap_i64]; omega
      have hdg : dg k = ⟨[UInt8.ofNat c].toArray⟩ := by unfold dg; rw [hr10, hc]
      have hnm := HS.out.nm.cell ha4
      unfold nf at hnm
      obtain ⟨nv, hnv⟩ : ∃ nv, nmv a = nv := ⟨_, rfl⟩
      have hnvs : nv.size ≤ 3 := by rw [← hnv]; exact nmv_size a
      obtain ⟨s0, hs0⟩ : ∃ s0, nv.size + 1 + 32 = s0 := ⟨_, rfl⟩
      rw [hnv] at hnm htt
      rw [hdg] at htt
      replace hnv := Lib.hid hnv
      replace htt := Lib.hid htt
      replace hput := Lib.hid hput
      replace La := Lib.hid La
      clear hx ha hr10 hc hdg
      go_wp2_with fail
      refine (La.out _).mono ?_
      rintro e w3 ⟨rfl, rfl⟩
      clear La hcell
      go_wp2_with fail
      have hcv : ∀ o, o = Obj.cells #[.int .u8 (c : Int)] 5 → (convert 48 9 (.slice (some ⟨wr.heap.size, 0, none⟩) 1 1)).run Try.prog (wr.alloc o).drew = .ok (.string ⟨#[UInt8.ofNat c]⟩) (wr.alloc o).drew := fun o ho => by
        subst ho
        have e : [Value.int .u8 (c : Int)] = bv [UInt8.ofNat c] := by
          simp only [bv, List.map_cons, List.map_nil]
          rw [show (((UInt8.ofNat c).toNat : Nat) : Int) = (c : Int) from by rw [UInt8.toNat_ofNat']; omega]
        have hrd : Rd (wr.alloc (.cells #[.int .u8 (c : Int)] 5)).drew (some ⟨wr.heap.size, 0, none⟩) (bv [UInt8.ofNat c]) := by
          rw [← e]; exact (Rd.fresh_mark wr [Value.int .u8 (c : Int)] 5 (0, 0)).drew
        exact run_conv_bytes Try.underlying48 Try.underlying5 Try.underlying9 (l := [UInt8.ofNat c]) hrd
      have hcv' := hcv _ rfl
      clear hcv
      have HD := HS.out.at_.alloc tbOk (.cells #[.int .u8 (c : Int)] 5)
      replace HD := Lib.hid (HD.still tbOk (Still.drew _))
      have FA : Hid (∀ o W, Fr (NotP P) (wr.alloc o).drew W → Fr (NotP P) wr W) := Lib.hid (fun o W F => (((Fr.refl (NotP P) wr).alloc o).drew).trans F)
      go_cut [56] from 43 to 56 (fun v wx => v = .bool false ∧ Hid (At IsTbS P wx p (tall most (lfl gs) (k + 1))) ∧ Hid (Fr (NotP P) wr wx))
      case first =>
        have hnma : ∀ o, (wr.alloc o).drew.cell? ⟨gn, a, none⟩ = some (.string nv) := fun o => Lib.cell?_alloc_some o hnm
        go_region_law (first
          | (go_simp; go_at_call 10; refine (ins_at (tall most (lfl gs) (k + 1)) HD.out nv ⟨#[UInt8.ofNat c]⟩ s0 hs0 (by rw [tall_most]; omega) (by rw [tall_F _ _ (fun i => by have := lfl_size gs i; omega)]; simp; omega) htt.out).mono ?_; rintro e w4 ⟨rfl, H4, F4⟩; replace H4 := Lib.hid H4; replace F4 := Lib.hid (FA.out _ _ F4)))
        all_goals (go_wp2_with fail; go_meet; exact ⟨rfl, H4, F4⟩)
      case rest =>
        obtain ⟨rfl, H4, F4⟩ := hcut
        have hB4 : Hid (Below w.heap.size w wc) := Lib.hid (fp_below hb.out hb.out.size HP.out.1 F4.out)
        have N4 := HS.out.nm.fr F4.out (fun h => h HP.out.2.1)
        have A4 := HS.out.la.fr F4.out (fun h => h HP.out.2.2.1)
        have f4 := A4.frozen a
        have v4 := A4.cell ha4
        have hfin : Hid (∀ W, W = wc.setCell ⟨gl, a, none⟩ (.int .i64 (k : Int)) → LaSt w.heap.size P W p gn gl most (k + 1) gs ∧ Below w.heap.size w W) := Lib.hid (by
          rintro W rfl
          have F5 : Fr (fun x => x = gl) wc (wc.setCell ⟨gl, a, none⟩ (.int .i64 (k : Int))) := (Fr.refl (fun x => x = gl) wc).setCell (p := ⟨gl, a, none⟩) (fun _ => rfl) _
          refine ⟨⟨H4.out.fr tbOk F5 (fun x _ e => by rw [e]; exact HP.out.2.2.1), N4.fr F5 (fun e => ?_), (A4.put a (.int .i64 (k : Int))).eq (fun y _ => hput.out y)⟩, Fr.under hB4.out hB4.out.size F5 (fun x e _ => by have := HP.out.2.2.2; have := hgl.out; omega)⟩
          have := hgl.out
          omega)
        have hkI : (k : Int) + 1 = ((k + 1 : Nat) : Int) := by omega
        obtain ⟨k1, hk1⟩ : ∃ k1, k + 1 = k1 := ⟨_, rfl⟩
        rw [hk1] at hkI hfin
        clear HS HD hb N4 A4 F4 hcv' FA H4 hB4 hput htt
        go_wp2_with fail
        obtain ⟨W, hW⟩ : ∃ W, wc.setCell ⟨gl, a, none⟩ (.int .i64 (k : Int)) = W := ⟨_, rfl⟩
        have hfin2 := hfin.out _ hW.symm
        rw [hW] at ⊢
        clear hfin f4 v4 hnm
        replace hW := Lib.hid hW
        replace hfin2 := Lib.hid hfin2
        refine (count_at k1 hfin2.out.1.at_ (by rw [tall_F _ _ (fun i => by have := lfl_size gs i; omega)]; simp [hk1])).mono ?_
        rintro e w5 ⟨rfl, H5, b5⟩
        obtain ⟨u, hu⟩ : ∃ u, (tall most (lfl gs) (k + 1)).used = u := ⟨_, rfl⟩
        have hum : u ≤ most := by
          have := (tall_ok most (lfl gs) (k + 1)).used
          rw [tall_most, hu] at this
          exact this
        have hB5 : Hid (Below w.heap.size w w5) := Lib.hid (hfin2.out.2.trans (b5.mono hfin2.out.2.size))
        have S5 : Hid (LaSt w.heap.size P w5 p gn gl most (k + 1) gs) := Lib.hid ⟨by rw [hk1]; exact H5, hfin2.out.1.nm.below b5, by rw [hk1]; exact hfin2.out.1.la.below b5⟩
        have d1 : decide (most < u) = false := decide_eq_false (by omega)
        have d1' : decide ((most : Int) < (u : Int)) = false := decide_eq_false (by omega)
        have hwk : IntKind.u64.wrap (k1 : Int) = (k1 : Int) := by rw [IntKind.wrap_u64]; omega
        clear hfin2 H5 b5
        replace hu := Lib.hid hu
        replace hk1 := Lib.hid hk1
        go_wp2_with fail
        refine (used_at u S5.out.at_ hu.out).mono ?_
        rintro e w6 ⟨rfl, rfl⟩
        go_wp2_with fail
        go_roundw
        case rel => exact ⟨k + 1, by omega, by rw [hk1.out], S5, hB5⟩
        case measure => simp [intOf]; have := hk1.out; omega
    · have hk' : k = n := by omega
      rw [hk'] at HS
      replace hk' := Lib.hid hk'
      clear hk
      obtain ⟨T, hT⟩ : ∃ T, tall most (lfl gs) n = T := ⟨_, rfl⟩
      have hsz : ∀ i, (lfl gs i).size ≤ most := fun i => by have := lfl_size gs i; omega
      have hlen := tall_len most (lfl gs) hsz n
      have hget := tall_get most (lfl gs) hsz n
      have hlj := tall_l most (lfl gs) hsz n
      have hfind := last_find gs most hm40 n
      rw [hT] at hlen hget hlj hfind
      obtain ⟨g, hg⟩ : ∃ g, T.gone = g := ⟨_, rfl⟩
      obtain ⟨L, hL⟩ : ∃ L, T.l.length = L := ⟨_, rfl⟩
      rw [hg] at hlen hget hlj
      rw [hL] at hlen
      replace hget := Lib.hid hget
      replace hlj := Lib.hid hlj
      replace hfind : Hid (∀ n_1, n_1 < 4 → ∃ a ok, T.find ⟨nmv n_1, ⟨#[110, 111, 110, 101]⟩⟩ = (a, ok, false) ∧ ok = (decide ((g : Int) ≤ li gs n_1 n) && decide (0 ≤ li gs n_1 n)) ∧ (ok = true → (a : Int) = li gs n_1 n) ∧ a ≤ n) := Lib.hid (by rw [← hg]; exact hfind)
      have hsub : (n : Int) - (L : Int) = (g : Int) := by omega
      have hgn2 : g ≤ 40 := by omega
      have HT := HS.out.at_
      rw [hT] at HT
      have HNm := Lib.hid HS.out.nm
      have HLa := Lib.hid HS.out.la
      replace HT := Lib.hid HT
      replace hT := Lib.hid hT
      replace hg := Lib.hid hg
      replace hL := Lib.hid hL
      clear HS
      go_wp2_with fail
      refine (tlist_at T.l L HT.out rfl hL.out).mono ?_
      rintro e w5 ⟨A5, c5, rfl, o5, H5, b5⟩
      replace hb : Hid (Below w.heap.size w w5) := Lib.hid (hb.out.trans (b5.mono hb.out.size))
      replace HNm := Lib.hid (HNm.out.below b5)
      replace HLa := Lib.hid (HLa.out.below b5)
      replace o5 := Lib.hid o5
      replace H5 := Lib.hid H5
      clear HT b5
      go_wp2_with fail
      go_loopw [12] (fun i wr => ∃ (k : Nat), k ≤ n ∧ i = .int .i64 k ∧ Hid (At IsTbS P wr p T) ∧ Hid (Below w5.heap.size w5 wr)) (fun i _ => n - (intOf i).toNat)
      case atStart => exact ⟨0, by omega, rfl, H5, Lib.hid (Below.refl _ _)⟩
      case round =>
        clear H5
        obtain ⟨k, hk, rfl, H5, b5⟩ := hrel
        have hb5 := hb.out.trans (b5.out.mono hb.out.size)
        by_cases hkn : k < n
        · obtain ⟨x, hx⟩ : ∃ x, gs[k]? = some x := ⟨_, List.getElem?_eq_getElem (by have := hn.out; omega)⟩
          have La := la_low gs 4 k x hx (by omega) (by omega)
          have ha4 := la_lt gs 4 k (by omega) (by omega)
          have hcells : ∃ b off, A = some ⟨b, off, none⟩ ∧ ∀ W, Below w.heap.size w W → W.cell? ⟨b, off + k, none⟩ = some (.int .i64 x) := by
            obtain ⟨b, off, rfl, h1⟩ := HR.out.at_ (k := k) (by simp; have := hn.out; omega)
            refine ⟨b, off, rfl, fun W hW => ?_⟩
            obtain ⟨b2, off2, e, h2⟩ := (HR.out.below hW).at_ (k := k) (by simp; have := hn.out; omega)
            injection e with e
            injection e with e1 e2
            subst e1 e2
            rw [h2, List.getElem_map, (List.getElem?_eq_some_iff.1 hx).2]
          obtain ⟨b, off, hA, hcells⟩ := hcells
          subst hA
          replace hcells := Lib.hid hcells
          have hwk : IntKind.u64.wrap (k : Int) = (k : Int) := by rw [IntKind.wrap_u64]; omega
          have hgk := hget.out k hkn
          obtain ⟨nv, hnv⟩ : ∃ nv, nmv (la gs 4 k) = nv := ⟨_, rfl⟩
          obtain ⟨dv, hdv⟩ : ∃ dv, dg k = dv := ⟨_, rfl⟩
          have hfk : lfl gs k = ⟨nv, dv⟩ := by unfold lfl; rw [hnv, hdv]
          have hNa := fun (W : World) (h : AtArrV 9 0 W gn 4 nf) => h.cell ha4
          unfold nf at hNa
          rw [hnv] at hNa
          obtain ⟨a, ha⟩ : ∃ a, la gs 4 k = a := ⟨_, rfl⟩
          rw [ha] at La ha4 hNa hnv
          have haI : (a : Int) < 4 := by omega
          replace La := Lib.hid La
          replace hNa := Lib.hid hNa
          have hNb := Lib.hid (HNm.out.below b5.out)
          clear ha hdv
          by_cases hgk2 : g ≤ k
          · rw [if_pos hgk2, hfk] at hgk
            obtain ⟨j, hj⟩ : ∃ j, k - g = j := ⟨_, rfl⟩
            have hjI : (k : Int) - (g : Int) = (j : Int) := by omega
            have hjL : j < L := by omega
            have hjLI : (j : Int) < (L : Int) := by omega
            have hlk := hlj.out j (by omega)
            rw [show g + j = k by omega, hfk] at hlk
            obtain ⟨gb, hA5, hrow⟩ : ∃ gb, A5 = some ⟨gb, 0, none⟩ ∧ ∀ W, Below w5.heap.size w5 W → W.cell? ⟨gb, j * 2, none⟩ = some (.string nv) ∧ W.cell? ⟨gb, j * 2 + 1, none⟩ = some (.string dv) := by
              rcases ownS_cases o5.out with ⟨_, h2, _⟩ | ⟨gb, h1, _⟩
              · omega
              · refine ⟨gb, h1, fun W hW => ?_⟩
                subst h1
                obtain ⟨hjl, e⟩ := List.getElem?_eq_some_iff.1 hlk
                obtain ⟨b', off', e1, x0, x1⟩ := load_fd ((Rd.of_ownS o5.out).below hW) hjl
                injection e1 with e1
                injection e1 with e1 e2
                subst e1 e2
                rw [e, Nat.zero_add] at x0 x1
                exact ⟨x0, x1⟩
            subst hA5
            have d1 : decide (g ≤ k) = true := decide_eq_true hgk2
            have d1' : decide ((g : Int) ≤ (k : Int)) = true := decide_eq_true (by omega)
            replace hlk := Lib.hid hlk
            replace hgk := Lib.hid hgk
            replace hrow := Lib.hid hrow
            replace hx := Lib.hid hx
            replace hfk := Lib.hid hfk
            clear hj
            go_wp2_with fail
            refine (get_at nv dv true H5.out k (by omega) (by rw [hgk.out]; rfl) (by rw [hgk.out]; rfl)).mono ?_
            rintro e w6 ⟨rfl, H6, b6⟩
            have b56 := b5.out.trans (b6.mono b5.out.size)
            have hb6 := hb5.trans (b6.mono hb5.size)
            go_wp2_with fail
            obtain ⟨W7, hW7⟩ : ∃ W7, w6.alloc (.cells #[.string nv, .string dv] 28) = W7 := ⟨_, rfl⟩
            have b67 := (Below.refl _ w6).alloc (Nat.le_refl _) (.cells #[.string nv, .string dv] 28)
            have hR7 := HasRow.new w6 28 #[.string nv, .string dv]
            rw [hW7] at b67 hR7 ⊢
            obtain ⟨fb, hfb⟩ : ∃ fb, w6.heap.size = fb := ⟨_, rfl⟩
            have b57 := b56.trans (b67.mono b56.size)
            have hb7 := hb6.trans (b67.mono hb6.size)
            have H7 := Lib.hid (H6.below tbOk b67)
            rw [hfb] at hR7 ⊢
            have x0 := hR7.cell 0 _ rfl
            have x1 := hR7.cell 1 _ rfl
            obtain ⟨y0, y1⟩ := hrow.out W7 b57
            have z0 := hNa.out W7 (HNm.out.below b57)
            have g0 := hcells.out W7 hb7
            replace b57 := Lib.hid b57
            clear hb7 b67 hR7 hfb hW7 H6 b6 b56 hb6 hrow H5 b5 hb5 hNb hNa
            go_big_quiet ((go_at_call 24; first | exact quiet_left (La.out _) | exact Calls.quiet_of_same (La.out _)))
            go_wp2_with fail
            go_roundw
            case rel => exact ⟨k + 1, by omega, by go_num, Lib.hid (H7.out.still tbOk (Still.drewN _ _)), Lib.hid (b57.out.trans ((Still.drewN _ _).below.mono b57.out.size))⟩
            case measure => simp [intOf]; omega
          · rw [if_neg hgk2] at hgk
            have d1 : decide (g ≤ k) = false := decide_eq_false hgk2
            have d1' : decide ((g : Int) ≤ (k : Int)) = false := decide_eq_false (by omega)
            replace hgk := Lib.hid hgk
            replace hx := Lib.hid hx
            replace hfk := Lib.hid hfk
            clear hNa hNb hcells
            go_wp2_with fail
            refine (get_at ⟨#[]⟩ ⟨#[]⟩ false H5.out k (by omega) (by rw [hgk.out]; rfl) (by rw [hgk.out]; rfl)).mono ?_
            rintro e w6 ⟨rfl, H6, b6⟩
            have b56 := b5.out.trans (b6.mono b5.out.size)
            go_wp2_with fail
            have b67 := (Below.refl _ w6).alloc (Nat.le_refl _) (.cells #[.string ⟨#[]⟩, .string ⟨#[]⟩] 28)
            have H7 := Lib.hid (H6.below tbOk b67)
            have b57 := Lib.hid (b56.trans (b67.mono b56.size))
            clear H6 b6 b56 H5 b5 hb5 b67
            go_big_quiet (fail)
            go_wp2_with fail
            go_roundw
            case rel => exact ⟨k + 1, by omega, by go_num, Lib.hid (H7.out.still tbOk (Still.drewN _ _)), Lib.hid (b57.out.trans ((Still.drewN _ _).below.mono b57.out.size))⟩
            case measure => simp [intOf]; omega
        · replace HNm := Lib.hid (HNm.out.below b5.out)
          replace HLa := Lib.hid (HLa.out.below b5.out)
          replace hb := Lib.hid hb5
          clear o5 b5 hb5
          obtain ⟨wq, rfl⟩ : ∃ wq : World, wq = wr := ⟨_, rfl⟩
          go_wp2_with fail
          clear hkn
          go_loopw [15] (fun i wr2 => ∃ (j : Nat), j ≤ 4 ∧ i = .int .i64 j ∧ Hid (At IsTbS P wr2 p T) ∧ Hid (Below wq.heap.size wq wr2)) (fun i _ => 4 - (intOf i).toNat)
          case atStart => exact ⟨0, by omega, rfl, H5, Lib.hid (Below.refl _ _)⟩
          case round =>
            clear H5
            obtain ⟨j, hj, rfl, H6, b6⟩ := hrel
            by_cases hj4 : j < 4
            · obtain ⟨fa, ok, hfd, hok, hfa, hfn⟩ := hfind.out j hj4
              obtain ⟨z, hz⟩ : ∃ z, li gs j n = z := ⟨_, rfl⟩
              have hNa := (HNm.out.below b6.out).cell hj4
              have hLa : Hid (∀ W, Below wq.heap.size wq W → W.cell? ⟨gl, j, none⟩ = some (.int .i64 z)) := Lib.hid (fun W hW => by
                have := (HLa.out.below hW).cell hj4
                unfold lf at this
                rw [hz] at this
                exact this)
              unfold nf at hNa
              obtain ⟨nv, hnv⟩ : ∃ nv, nmv j = nv := ⟨_, rfl⟩
              rw [hnv] at hNa
              rw [hz] at hok hfa
              have hzb := li_bd gs j n
              rw [hz] at hzb
              have hjI : (j : Int) < 4 := by omega
              replace hnv := Lib.hid hnv
              replace hfd := Lib.hid hfd
              replace hz := Lib.hid hz
              have hcase : (ok = true ∧ z = (fa : Int) ∧ g ≤ fa) ∨ (ok = false ∧ decide ((g : Int) ≤ z) = false) ∨ (ok = false ∧ decide ((g : Int) ≤ z) = true ∧ decide (0 ≤ z) = false) := by
                by_cases h1 : (g : Int) ≤ z
                · by_cases h2 : 0 ≤ z
                  · left
                    rw [decide_eq_true h1, decide_eq_true h2] at hok
                    exact ⟨hok, (hfa hok).symm, by have := hfa hok; omega⟩
                  · right; right
                    rw [decide_eq_false h2, Bool.and_false] at hok
                    exact ⟨hok, decide_eq_true h1, decide_eq_false h2⟩
                · right; left
                  rw [decide_eq_false h1, Bool.false_and] at hok
                  exact ⟨hok, decide_eq_false h1⟩
              clear hok hfa
              rcases hcase with ⟨rfl, rfl, hgfa⟩ | ⟨rfl, d1⟩ | ⟨rfl, d1, d2⟩
              · have d1 : decide (g ≤ fa) = true := decide_eq_true hgfa
                have d1' : decide ((g : Int) ≤ (fa : Int)) = true := decide_eq_true (by omega)
                have hwf : IntKind.u64.wrap (fa : Int) = (fa : Int) := by rw [IntKind.wrap_u64]; omega
                clear hgfa
                go_wp2_with fail
                refine (find_at fa true false H6.out nv ⟨#[110, 111, 110, 101]⟩ (by rw [← hnv.out]; exact hfd.out)).mono ?_
                rintro e w7 ⟨rfl, H7, b7⟩
                have z1 := hLa.out w7 (b6.out.trans (b7.mono b6.out.size))
                have b67 := Lib.hid (b6.out.trans (b7.mono b6.out.size))
                replace H7 := Lib.hid H7
                clear b6 b7 H6 hNa hLa
                go_wp2_with fail
                go_roundw
                case rel => exact ⟨j + 1, by omega, by go_num, H7, b67⟩
                case measure => simp [intOf]; omega
              · go_wp2_with fail
                refine (find_at fa false false H6.out nv ⟨#[110, 111, 110, 101]⟩ (by rw [← hnv.out]; exact hfd.out)).mono ?_
                rintro e w7 ⟨rfl, H7, b7⟩
                have z1 := hLa.out w7 (b6.out.trans (b7.mono b6.out.size))
                have b67 := Lib.hid (b6.out.trans (b7.mono b6.out.size))
                replace H7 := Lib.hid H7
                clear b6 b7 H6 hNa hLa
                go_wp2_with fail
                go_roundw
                case rel => exact ⟨j + 1, by omega, by go_num, H7, b67⟩
                case measure => simp [intOf]; omega
              · go_wp2_with fail
                refine (find_at fa false false H6.out nv ⟨#[110, 111, 110, 101]⟩ (by rw [← hnv.out]; exact hfd.out)).mono ?_
                rintro e w7 ⟨rfl, H7, b7⟩
                have z1 := hLa.out w7 (b6.out.trans (b7.mono b6.out.size))
                have b67 := Lib.hid (b6.out.trans (b7.mono b6.out.size))
                replace H7 := Lib.hid H7
                clear b6 b7 H6 hNa hLa
                go_wp2_with fail
                go_roundw
                case rel => exact ⟨j + 1, by omega, by go_num, H7, b67⟩
                case measure => simp [intOf]; omega
            · have hj' : j = 4 := by omega
              have hb6 := Lib.hid (hb.out.trans (b6.out.mono hb.out.size))
              clear b6 H6
              go_wp2_with fail
              refine (awake_any _).mono ?_
              rintro e wf ⟨rfl, hbf⟩
              go_wp2_with fail
              go_ret
              exact ⟨rfl, hb6.out.trans (hbf.mono hb6.out.size)⟩

set_option maxRecDepth 100000 in
set_option maxHeartbeats 2000000 in
theorem last_any (gs : List Int) (m0 : Int) (A : Option Addr) (cap : Nat) (w : World) (hr : Rd w A (gs.map (Value.int .i64))) (hc : gs.length ≤ 9223372036854775807) :
    Calls Try.prog 5 #[.slice A gs.length cap, .int .i64 m0] w fun e w' => e = .returned (.bool true) ∧ Below w.heap.size w w' := by
  obtain ⟨n, hn⟩ : ∃ n, gs.length = n := ⟨_, rfl⟩
  rw [hn] at hc ⊢
  by_cases h : n ≤ 40
  · exact last_in gs m0 A cap n w hn hr h
  · have b2 : decide ((40 : Int) < (n : Int)) = true := decide_eq_true (by omega)
    clear hn hr
    go_enter Try.func5, Try.ntmps5
    go_wp2_with fail
    refine (awake_any _).mono ?_
    rintro e wf ⟨rfl, hbf⟩
    go_wp2_with fail
    go_ret
    exact ⟨rfl, hbf⟩
end Go.Proofs.Ytgcnhppafclnmaa
