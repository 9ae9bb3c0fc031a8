/- RangesOnce: it is true at every input. -/
import Derived.Test.YtdhdnpagdflgpaaRgN
import Derived.Test.YtdhdnpagdflgpaaRgO
import Derived.Test.YtdhdnpagdflgpaaArrB
import Derived.Test.YtdhdnpagdflgpaaRgM
namespace Go.Proofs.Ytdhdnpagdflgpaa
open Go.RowKit

/-- The number that the i-th one tells. -/
def oa (gs : List Int) (i : Nat) : Nat := (low (gs.getD i 0) 60).toNat
theorem oa_lt (gs : List Int) (i : Nat) : oa gs i < 60 := by
  have := low_bd (gs.getD i 0) 60 (by omega) (by omega)
  unfold oa; omega
theorem oa_low (gs : List Int) (i : Nat) (x : Int) (hx : gs[i]? = some x) (w : World) : Calls Try.prog 10 #[.int .i64 x, .int .i64 60] w fun e w' => e = .returned (.int .i64 (oa gs i)) ∧ w = w' := by
  have hb := low_bd x 60 (by omega) (by omega)
  have e : ((oa gs i : Nat) : Int) = low x 60 := by
    unfold oa
    rw [List.getD_eq_getElem?_getD, hx]
    exact Int.toNat_of_nonneg hb.1
  rw [e]
  exact low_any x 60 w (by omega) (by omega)

/-- Add, whatever is in. -/
def Rs.put (s : Rs) (n : Nat) : Rs := if s.has n then s else s.add n
theorem addx_two {P : Nat → Prop} {w : World} {ps pt : Nat} {s t : Rs} (b : Bool) (s' : Rs) (h : TwoAt P w ps s pt t) (n : Nat) (hn : n ≤ 4611686018427387903) (hb : s.has n = b) (hs : s.put n = s') : Calls Try.prog 11 #[.pointer (some ⟨ps, 0, none⟩), .int .u64 n] w fun e w' => e = .returned (.bool (!b)) ∧ TwoAt P w' ps s' pt t ∧ Fr (NotP P) w w' := by
  unfold Rs.put at hs
  cases b
  · rw [if_neg (by rw [hb]; simp)] at hs
    exact add_two s' h n hn hb hs
  · rw [if_pos hb] at hs
    subst hs
    refine (addno_two h n (.inr ⟨hn, hb⟩)).mono ?_
    rintro e w' ⟨rfl, h2, b2⟩
    exact ⟨rfl, h2, Fr.of_below b2 _⟩
theorem addx_snd {P : Nat → Prop} {w : World} {ps pt : Nat} {s t : Rs} (b : Bool) (t' : Rs) (h : TwoAt P w ps s pt t) (n : Nat) (hn : n ≤ 4611686018427387903) (hb : t.has n = b) (ht : t.put n = t') : Calls Try.prog 11 #[.pointer (some ⟨pt, 0, none⟩), .int .u64 n] w fun e w' => e = .returned (.bool (!b)) ∧ TwoAt P w' ps s pt t' ∧ Fr (NotP P) w w' := by
  refine (addx_two b t' h.swap n hn hb ht).mono ?_
  rintro e w' ⟨rfl, h2, b2⟩
  exact ⟨rfl, h2.swap, b2⟩
theorem On.put {s : Rs} {T : Nat → Bool} (h : On s T) (n : Nat) (hn : n < 60) : On (s.put n) (fun x => T x || decide (x = n)) := by
  unfold Rs.put
  rw [h.has]
  cases hT : T n
  · rw [if_neg (by simp)]; exact h.add n hn hT
  · rw [if_pos rfl]; exact h.again n hT
theorem On.eq {s : Rs} {T T' : Nat → Bool} (h : On s T) (he : ∀ x, T x = T' x) : On s T' := by
  have : T = T' := funext he
  rwa [← this]
theorem oT_zero (a : Nat → Nat) (x : Nat) : oT a 0 x = false := rfl
theorem AtArrB.eq {t : TypeId} {B : Nat} {w : World} {g n : Nat} {T T' : Nat → Bool} (h : AtArrB t B w g n T) (he : ∀ x, T x = T' x) : AtArrB t B w g n T' := by
  have : T = T' := funext he
  rwa [← this]
theorem put_fun (T : Nat → Bool) (n x : Nat) : (if x = n then true else T x) = (T x || decide (x = n)) := by
  by_cases h : x = n
  · rw [if_pos h, decide_eq_true h, Bool.or_true]
  · rw [if_neg h, decide_eq_false h, Bool.or_false]

theorem rsize_take_le (l : List Rg) (k : Nat) : rsize (l.take k) ≤ rsize l := by
  have : rsize (l.take k ++ l.drop k) = rsize (l.take k) + rsize (l.drop k) := by unfold rsize; rw [List.map_append, List.sum_append]
  rw [List.take_append_drop] at this; omega
/-- What the rounds know. -/
structure OnSt (P : Nat → Prop) (w : World) (ps pt g n d k : Nat) (gs : List Int) (s t : Rs) : Prop where
  os : On s (oT (oa gs) k)
  ot : On t (oT (fun i => oa gs ((i + d) % n)) k)
  two : TwoAt P w ps s pt t
  arr : AtArrB 26 0 w g 60 (oT (oa gs) k)

set_option maxRecDepth 100000 in
set_option maxHeartbeats 8000000 in
theorem ronce_in (gs : List Int) (turn : Int) (A : Option Addr) (cap n : Nat) (w : World) (hn : gs.length = n) (hr : Rd w A (gs.map (Value.int .i64))) (hn0 : 0 < n) (hn30 : n ≤ 30) :
    Calls Try.prog 3 #[.slice A n cap, .int .i64 turn] w fun e w' => e = .returned (.bool true) ∧ Below w.heap.size w w' := by
  have b1 : decide ((30 : Int) < (n : Int)) = false := decide_eq_false (by omega)
  have b2 : ((n : Int) == 0) = false := by rw [beq_eq_false_iff_ne]; omega
  obtain ⟨d, hd, L1⟩ := low_ex turn n (by omega) (by omega)
  replace L1 := Lib.hid L1
  have HR := Lib.hid hr
  replace hn := Lib.hid hn
  clear hr
  go_enter Try.func3, Try.ntmps3
  go_wp2_with fail
  refine (new_at (fun k => k < w.heap.size) w (fun _ h => h) 64 (by omega) (by omega)).mono ?_
  rintro e w1 ⟨ps, rfl, H, hb⟩
  replace H := Lib.hid H
  replace hb := Lib.hid hb
  go_wp2_with fail
  refine (new_two H.out 64 (by omega) (by omega)).mono ?_
  rintro e w2 ⟨pt, rfl, H2, hb2⟩
  replace hb : Hid (Below w.heap.size w w2) := Lib.hid (hb.out.trans (hb2.mono hb.out.size))
  clear H hb2
  obtain ⟨g, hg⟩ : ∃ g, w2.heap.size = g := ⟨_, rfl⟩
  have HS : Hid (∀ cs, cs = (tb 60 (fun _ => false)).toArray → OnSt (fun k => k < w.heap.size ∨ k = g) (w2.alloc (.cells cs 26)) ps pt g n d 0 gs (rsnew 64) (rsnew 64) ∧ Below w.heap.size w (w2.alloc (.cells cs 26))) := Lib.hid (fun cs hcs => by
    have bA : Below w2.heap.size w2 (w2.alloc (.cells cs 26)) := (Below.refl _ w2).alloc (Nat.le_refl _) _
    have hsz := hb.out.size
    refine ⟨⟨On.start.eq (fun _ => rfl), On.start.eq (fun _ => rfl), H2.widen (fun k hk => ?_) bA (fun k hk => ?_), ?_⟩, hb.out.trans (bA.mono hb.out.size)⟩
    · rcases hk with h | h
      · exact .inl h
      · exact .inr (by omega)
    · have := bA.size
      simp
      rcases hk with h | h <;> omega
    · rw [← hg]
      exact own_base ((AtArrB.new 26 w2 60 (by omega) cs hcs).eq (fun _ => rfl)) (fun _ _ => Nat.zero_le _))
  have hgw : Hid (w.heap.size ≤ g) := Lib.hid (by rw [← hg]; exact hb.out.size)
  replace hg := Lib.hid hg
  clear H2 hb
  go_wp2_with fail
  rw [hg.out]
  clear b1 b2
  go_loopw [8, 9] (fun m i wr => ∃ (k c : Nat) (s t : Rs), k ≤ n ∧ i = .int .i64 k ∧ m = .int .i64 c ∧ Hid (c = cntT (oT (oa gs) k)) ∧ Hid (OnSt (fun k => k < w.heap.size ∨ k = g) wr ps pt g n d k gs s t) ∧ Hid (Below w.heap.size w wr)) (fun _ i _ => n - (intOf i).toNat)
  case atStart =>
    have h := HS.out _ rfl
    exact ⟨0, 0, _, _, by omega, rfl, rfl, Lib.hid rfl, Lib.hid h.1, Lib.hid h.2⟩
  case round =>
    clear HS hg
    obtain ⟨k, c, s, t, hk, rfl, rfl, hc, HS, hb⟩ := hrel
    by_cases hkn : k < n
    · obtain ⟨b, off, rfl, hcell⟩ := (HR.out.below hb.out).at_ (k := k) (by simp; have := hn.out; omega)
      rw [List.getElem_map] at hcell
      obtain ⟨x, hx⟩ : ∃ x, gs[k]'(by have := hn.out; omega) = x := ⟨_, rfl⟩
      rw [hx] at hcell
      have La := oa_low gs k x (by rw [← hx]; exact List.getElem?_eq_getElem _)
      obtain ⟨q0, hq0⟩ : ∃ q0, k + d = q0 := ⟨_, rfl⟩
      obtain ⟨q1, hq1⟩ : ∃ q1, q0 % n = q1 := ⟨_, rfl⟩
      have hq1n : q1 < n := by rw [← hq1]; exact Nat.mod_lt _ hn0
      have i1 : (k : Int) + (d : Int) = (q0 : Int) := by omega
      have i2 : (q0 : Int).tmod (n : Int) = (q1 : Int) := by rw [← hq1]; rfl
      have hq0b : q0 ≤ 100 := by omega
      obtain ⟨y, hy⟩ : ∃ y, gs[q1]? = some y := ⟨_, List.getElem?_eq_getElem (by have := hn.out; omega)⟩
      have Lb := oa_low gs q1 y hy
      have hc2 : Hid (∀ W, Below w.heap.size w W → W.cell? ⟨b, off + q1, none⟩ = some (.int .i64 y)) := Lib.hid (fun W bW => by
        obtain ⟨hq, e⟩ := List.getElem?_eq_some_iff.1 hy
        obtain ⟨b', off', e1, h1⟩ := (HR.out.below bW).at_ (k := q1) (by simpa using hq)
        injection e1 with e1
        injection e1 with e1 e2
        subst e1 e2
        rw [List.getElem_map, e] at h1
        exact h1)
      have hbw : Hid (b < w.heap.size) := Lib.hid (by
        obtain ⟨b', off', e1, h1⟩ := HR.out.at_ (k := k) (by simp; have := hn.out; omega)
        injection e1 with e1
        injection e1 with e1 e2
        subst e1
        exact World.block_lt_of_cell? w _ h1)
      have Sa := HS.out.os.put (oa gs k) (oa_lt gs k)
      have St := HS.out.ot.put (oa gs q1) (oa_lt gs q1)
      have hTa := HS.out.os.has (oa gs k)
      have hTb := HS.out.ot.has (oa gs q1)
      have hcl := HS.out.arr.cell (oa_lt gs k)
      have hfl := HS.out.arr.frozen (oa gs k)
      have ha60 := oa_lt gs k
      have hb60 := oa_lt gs q1
      have hcc := cntT_add (oT (oa gs) k) (oa gs k) ha60
      have hca := cntT_congr (oT (oa gs) (k + 1)) _ (oT_succ (oa gs) k)
      have hse : ∀ z, (oT (oa gs) k z || decide (z = oa gs k)) = oT (oa gs) (k + 1) z := fun z => (oT_succ (oa gs) k z).symm
      have hte : ∀ z, (oT (fun i => oa gs ((i + d) % n)) k z || decide (z = oa gs q1)) = oT (fun i => oa gs ((i + d) % n)) (k + 1) z := fun z => by
        rw [oT_succ, hq0, hq1]
      replace Sa := Lib.hid (Sa.eq hse)
      replace St := Lib.hid (St.eq hte)
      obtain ⟨a, ha⟩ : ∃ a, oa gs k = a := ⟨_, rfl⟩
      obtain ⟨e, he⟩ : ∃ e, oa gs q1 = e := ⟨_, rfl⟩
      rw [ha] at La Sa hTa hcl hfl ha60 hcc hse hca
      rw [he] at Lb St hTb hb60
      obtain ⟨s2, hs2⟩ : ∃ s2, s.put a = s2 := ⟨_, rfl⟩
      obtain ⟨t2, ht2⟩ : ∃ t2, t.put e = t2 := ⟨_, rfl⟩
      rw [hs2] at Sa
      rw [ht2] at St
      obtain ⟨vb, hvb⟩ : ∃ vb, oT (fun i => oa gs ((i + d) % n)) k e = vb := ⟨_, rfl⟩
      rw [hvb] at hTb
      have hcn : c ≤ 60 := by rw [hc.out]; exact cntT_le _
      have hwa : IntKind.u64.wrap (a : Int) = (a : Int) := by rw [IntKind.wrap_u64]; omega
      have hwe : IntKind.u64.wrap (e : Int) = (e : Int) := by rw [IntKind.wrap_u64]; omega
      have ha60I : (a : Int) < 60 := by omega
      have hq1I : (q1 : Int) < (n : Int) := by omega
      have hk3 : Hid (∀ W, Fr (NotP (fun k => k < w.heap.size ∨ k = g)) wr W → W.cell? ⟨g, a, none⟩ = some (.bool (oT (oa gs) k a)) ∧ W.frozen? ⟨g, a, none⟩ = false ∧ AtArrB 26 0 W g 60 (oT (oa gs) k) ∧ Below w.heap.size w W) := Lib.hid (fun W F => by
        have h := HS.out.arr.fr F (fun hn => hn (.inr rfl))
        exact ⟨h.cell ha60, h.frozen _, h, fp_below hb.out hb.out.size (fun _ h => .inl h) F⟩)
      have hst : Hid (∀ W, W.frozen? ⟨g, a, none⟩ = false → AtArrB 26 0 W g 60 (oT (oa gs) k) → Below w.heap.size w W → TwoAt (fun k => k < w.heap.size ∨ k = g) W ps s2 pt t → AtArrB 26 0 (W.setCell ⟨g, a, none⟩ (.bool true)) g 60 (oT (oa gs) (k + 1)) ∧ Below w.heap.size w (W.setCell ⟨g, a, none⟩ (.bool true)) ∧ TwoAt (fun k => k < w.heap.size ∨ k = g) (W.setCell ⟨g, a, none⟩ (.bool true)) ps s2 pt t) := Lib.hid (fun W _ hA hB hT => by
        have F : Fr (fun x => x = g) W (W.setCell ⟨g, a, none⟩ (.bool true)) := (Fr.refl (fun x => x = g) W).setCell (p := ⟨g, a, none⟩) (fun _ => rfl) _
        exact ⟨(hA.put a true).eq (fun z => by rw [put_fun]; exact hse z), Fr.under hB hB.size F (fun x hx _ => by have := hgw.out; omega), hT.fr F (fun _ e => .inr e)⟩)
      replace hse := Lib.hid hse
      replace hs2 := Lib.hid hs2
      replace ht2 := Lib.hid ht2
      replace La := Lib.hid La
      replace Lb := Lib.hid Lb
      replace hTb := Lib.hid hTb
      clear hte hq0 hq1 hx hy ha he hvb
      have HD := Lib.hid (HS.out.two.below (Still.drew wr).below)
      have hAr := Lib.hid HS.out.arr
      have hk1 : k ≤ 30 := by omega
      cases hv : oT (oa gs) k a
      · rw [hv] at hTa hcl hk3
        have hc1 : Hid (c + 1 = cntT (oT (oa gs) (k + 1))) := Lib.hid (by
          rw [hca, hc.out]
          exact (hcc hv).symm)
        replace hv := Lib.hid hv
        replace hTa := Lib.hid hTa
        clear hcc hca HS hfl hAr hb
        go_wp2_with fail
        refine (La.out _).mono ?_
        rintro e1 w3 ⟨rfl, rfl⟩
        clear La
        go_wp2_with fail
        go_region_held3 (fun W => W.cell? ⟨g, a, none⟩ = some (.bool false)) (first | assumption | go_keep) (first
          | (go_at_call 11; refine (addx_two false s2 HD.out a (by omega) hTa.out hs2.out).mono ?_; rintro e1 w3 ⟨rfl, T3, F3⟩; obtain ⟨hcell3, hfro3, A3, B3⟩ := hk3.out w3 (((Still.drew wr).fr _).trans F3); replace A3 := Lib.hid A3; replace B3 := Lib.hid B3; replace T3 := Lib.hid T3))
        obtain ⟨A4, B4, T4⟩ := hst.out w3 hfro3 A3.out B3.out T3.out
        go_wp2_with fail
        replace A4 := Lib.hid A4
        replace B4 := Lib.hid B4
        replace T4 := Lib.hid T4
        refine (L1.out _).mono ?_
        rintro e1 w4 ⟨rfl, rfl⟩
        obtain ⟨W, hW⟩ : ∃ W, w3.setCell ⟨g, a, none⟩ (.bool true) = W := ⟨_, rfl⟩
        rw [hW] at A4 B4 T4 ⊢
        have hy2 := hc2.out W B4.out
        replace hW := Lib.hid hW
        clear hst hk3 F3 A3 B3 T3 HD hcell3 hfro3 hcell hcl
        go_wp2_with fail
        refine (Lb.out _).mono ?_
        rintro e1 w4 ⟨rfl, rfl⟩
        go_wp2_with fail
        refine (addx_snd vb t2 T4.out e (by omega) hTb.out ht2.out).mono ?_
        rintro e1 w5 ⟨rfl, T5, F5⟩
        have A5 := Lib.hid (A4.out.fr F5 (fun hn => hn (.inr rfl)))
        have B5 := Lib.hid (fp_below B4.out B4.out.size (fun _ h => .inl h) F5)
        replace T5 := Lib.hid T5
        clear F5 A4 B4 T4
        go_wp2_with fail
        go_roundw
        case rel => exact ⟨k + 1, c + 1, s2, t2, by omega, by go_num, by go_num, hc1, Lib.hid ⟨Sa.out, St.out, T5.out, A5.out⟩, B5⟩
        case measure => simp [intOf]; omega
      · rw [hv] at hTa hcl hk3
        have hc1 : Hid (c = cntT (oT (oa gs) (k + 1))) := Lib.hid (by
          rw [hca, hc.out]
          refine cntT_congr _ _ (fun z => ?_)
          by_cases hz : z = a
          · subst hz; rw [hv]; rfl
          · rw [decide_eq_false hz, Bool.or_false])
        replace hv := Lib.hid hv
        replace hTa := Lib.hid hTa
        clear hcc hca HS hfl hAr hb
        go_wp2_with fail
        refine (La.out _).mono ?_
        rintro e1 w3 ⟨rfl, rfl⟩
        clear La
        go_wp2_with fail
        go_region_held3 (fun W => W.cell? ⟨g, a, none⟩ = some (.bool true)) (first | assumption | go_keep) (first
          | (go_at_call 11; refine (addx_two true s2 HD.out a (by omega) hTa.out hs2.out).mono ?_; rintro e1 w3 ⟨rfl, T3, F3⟩; obtain ⟨hcell3, hfro3, A3, B3⟩ := hk3.out w3 (((Still.drew wr).fr _).trans F3); replace A3 := Lib.hid A3; replace B3 := Lib.hid B3; replace T3 := Lib.hid T3))
        obtain ⟨A4, B4, T4⟩ := hst.out w3 hfro3 A3.out B3.out T3.out
        go_wp2_with fail
        replace A4 := Lib.hid A4
        replace B4 := Lib.hid B4
        replace T4 := Lib.hid T4
        refine (L1.out _).mono ?_
        rintro e1 w4 ⟨rfl, rfl⟩
        obtain ⟨W, hW⟩ : ∃ W, w3.setCell ⟨g, a, none⟩ (.bool true) = W := ⟨_, rfl⟩
        rw [hW] at A4 B4 T4 ⊢
        have hy2 := hc2.out W B4.out
        replace hW := Lib.hid hW
        clear hst hk3 F3 A3 B3 T3 HD hcell3 hfro3 hcell hcl
        go_wp2_with fail
        refine (Lb.out _).mono ?_
        rintro e1 w4 ⟨rfl, rfl⟩
        go_wp2_with fail
        refine (addx_snd vb t2 T4.out e (by omega) hTb.out ht2.out).mono ?_
        rintro e1 w5 ⟨rfl, T5, F5⟩
        have A5 := Lib.hid (A4.out.fr F5 (fun hn => hn (.inr rfl)))
        have B5 := Lib.hid (fp_below B4.out B4.out.size (fun _ h => .inl h) F5)
        replace T5 := Lib.hid T5
        clear F5 A4 B4 T4
        go_wp2_with fail
        go_roundw
        case rel => exact ⟨k + 1, c, s2, t2, by omega, by go_num, by go_num, hc1, Lib.hid ⟨Sa.out, St.out, T5.out, A5.out⟩, B5⟩
        case measure => simp [intOf]; omega
    · have hk' : k = n := by omega
      have T0 := HS.out.os
      have T1 := HS.out.ot
      rw [hk'] at T0 T1 hc
      have hlt : s.l = t.l := T0.same T1 (fun x => (oT_turn (oa gs) n d x hn0).symm)
      obtain ⟨l, hl⟩ : ∃ l, s.l = l := ⟨_, rfl⟩
      obtain ⟨L, hL⟩ : ∃ L, l.length = L := ⟨_, rfl⟩
      have rok : Rok l := by rw [← hl]; exact T0.ok.ok
      have hmem : ∀ x, rmem l x = oT (oa gs) n x := fun x => by rw [← hl]; exact T0.mem x
      have hhi : ∀ r ∈ l, r.hi < 60 := fun r hr => T0.lt _ (by rw [← hmem]; exact (rmem_iff _ _).2 ⟨r, hr, rok.le r hr, Nat.le_refl _⟩)
      have hcs : c = rsize l := by
        rw [hc.out, ← cnt_ranges l 60 rok hhi]
        exact congrArg List.length (List.filter_congr (fun x _ => (hmem x).symm))
      have hc60 : c ≤ 60 := by rw [hc.out]; exact cntT_le _
      have hL31 : L ≤ 40 := by
        have := rok_len l 59 rok (fun r hr => by have := hhi r hr; omega)
        omega
      have hAr := HS.out.arr
      rw [hk'] at hAr
      have HT := HS.out.two
      replace hAr := Lib.hid hAr
      replace HT := Lib.hid HT
      rw [hl] at hlt
      replace hlt := Lib.hid hlt
      replace hl := Lib.hid hl
      replace hmem := Lib.hid hmem
      replace hhi := Lib.hid hhi
      replace rok := Lib.hid rok
      clear HS T0 T1 hc L1 hk hgw HR hn
      replace hk' := Lib.hid hk'
      go_wp2_with fail
      refine (list_two l HT.out hl.out).mono ?_
      rintro e w3 ⟨A5, c5, rfl, o5, T5, b5⟩
      have hb5 : Hid (Below w.heap.size w w3) := Lib.hid (hb.out.trans (b5.mono hb.out.size))
      replace hAr := Lib.hid (hAr.out.fr (Fr.of_below b5 NoS) (fun x => x))
      replace o5 := Lib.hid o5
      replace T5 := Lib.hid T5
      clear HT hb b5
      rw [hL]
      rw [hL] at o5
      replace hL := Lib.hid hL
      replace hcs := Lib.hid hcs
      go_wp2_with fail
      clear hkn
      go_loopw [12, 13] (fun v i wr => ∃ (j q cc : Nat), j ≤ L ∧ i = .int .i64 j ∧ v = .int .i64 cc ∧ Hid (cc = rsize (l.take j)) ∧ wr = w3.drewN q) (fun _ i _ => L - (intOf i).toNat)
      case atStart => exact ⟨0, 0, 0, by omega, rfl, rfl, Lib.hid rfl, rfl⟩
      case round =>
        obtain ⟨j, q, cc, hj, rfl, rfl, hcc, rfl⟩ := hrel
        by_cases hjL : j < L
        · obtain ⟨r, hr⟩ : ∃ r, l[j]? = some r := ⟨_, List.getElem?_eq_getElem (by rw [hL.out]; exact hjL)⟩
          have hcells : ∃ gb, A5 = some ⟨gb, 0, none⟩ ∧ ∀ j r, l[j]? = some r → w3.cell? ⟨gb, j * 2, none⟩ = some (.int .u64 r.lo) ∧ w3.cell? ⟨gb, j * 2 + 1, none⟩ = some (.int .u64 r.hi) := by
            rcases ownS_cases o5.out with ⟨_, h2, _⟩ | ⟨gb, h1, _⟩
            · omega
            · subst h1
              refine ⟨gb, rfl, fun j r hr => ?_⟩
              obtain ⟨hj, e⟩ := List.getElem?_eq_some_iff.1 hr
              obtain ⟨b', off', e1, x0, x1⟩ := load_rg (Rd.of_ownS o5.out) hj
              injection e1 with e1
              injection e1 with e1 e2
              subst e1 e2
              rw [e, Nat.zero_add] at x0 x1
              exact ⟨x0, x1⟩
          obtain ⟨gb, hgb, HC⟩ := hcells
          subst hgb
          obtain ⟨lo, hlo⟩ : ∃ lo, r.lo = lo := ⟨_, rfl⟩
          obtain ⟨hi, hhi2⟩ : ∃ hi, r.hi = hi := ⟨_, rfl⟩
          have hlh : lo ≤ hi := by rw [← hlo, ← hhi2]; exact rok.out.le r (List.mem_of_getElem? hr)
          have hh60 : hi < 60 := by rw [← hhi2]; exact hhi.out r (List.mem_of_getElem? hr)
          have hrs := rsize_snoc l j r hr
          rw [hlo, hhi2] at hrs
          replace hrs := Lib.hid hrs
          have hin : Hid (∀ x, lo ≤ x → x ≤ hi → oT (oa gs) n x = true) := Lib.hid (fun x h1 h2 => by
            rw [← hmem.out]
            exact (rmem_iff _ _).2 ⟨r, List.mem_of_getElem? hr, by omega, by omega⟩)
          have hprev : j = 0 ∨ ∃ j0 r0, j = j0 + 1 ∧ l[j0]? = some r0 ∧ hi + 1 < r0.lo := by
            rcases Nat.eq_zero_or_pos j with h0 | h0
            · exact .inl h0
            · refine .inr ⟨j - 1, l[j - 1]'(by have := hL.out; omega), by omega, List.getElem?_eq_getElem _, ?_⟩
              rw [← hhi2]
              obtain ⟨hjl, e⟩ := List.getElem?_eq_some_iff.1 hr
              have := List.pairwise_iff_getElem.1 rok.out.fall (j - 1) j (by omega) hjl (by omega)
              rw [e] at this
              exact this
          have hccb : cc ≤ 60 := by rw [hcc.out]; have := rsize_take_le l j; have := hcs.out; omega
          obtain ⟨x0, x1⟩ := HC j r hr
          rw [hlo] at x0
          rw [hhi2] at x1
          have d1 : decide ((hi : Int) < (lo : Int)) = false := decide_eq_false (by omega)
          have d1' : decide (hi < lo) = false := decide_eq_false (by omega)
          have d2 : decide (60 ≤ (hi : Int)) = false := decide_eq_false (by omega)
          have hjI : (j : Int) < (L : Int) := by omega
          replace hr := Lib.hid hr
          clear hlo hhi2
          refine hprev.elim (fun h0 => ?first) (fun h1 => ?later)
          case' first =>
            have d3 : decide (0 < j) = false := decide_eq_false (by omega)
            clear hprev HC
            replace h0 := Lib.hid h0
            go_wp2_with fail
            go_big_quiet (fail)
            go_wp2_with fail
          case' later =>
            obtain ⟨j0, r0, hj0, hr0, hlt0⟩ := h1
            obtain ⟨lo0, hlo0⟩ : ∃ lo0, r0.lo = lo0 := ⟨_, rfl⟩
            obtain ⟨y0, -⟩ := HC j0 r0 hr0
            rw [hlo0] at y0 hlt0
            obtain ⟨h1, hh1⟩ : ∃ h1, hi + 1 = h1 := ⟨_, rfl⟩
            have hh1I : (hi : Int) + 1 = (h1 : Int) := by omega
            have hj0I : (j : Int) - 1 = (j0 : Int) := by omega
            have hj0L : (j0 : Int) < (L : Int) := by omega
            have d3 : decide (0 < j) = true := decide_eq_true (by omega)
            have d4 : decide (lo0 ≤ h1) = false := decide_eq_false (by omega)
            have d4' : decide ((lo0 : Int) ≤ (h1 : Int)) = false := decide_eq_false (by omega)
            clear hprev HC hj0
            replace hlt0 := Lib.hid hlt0
            replace hr0 := Lib.hid hr0
            replace hlo0 := Lib.hid hlo0
            replace hh1 := Lib.hid hh1
            go_wp2_with fail
            go_big_quiet (fail)
            go_wp2_with fail
            clear hh1I hj0I hj0L d4 d4' y0
          all_goals
            clear d1 d1' d2 d3
            go_loopw [12, 14] (fun v z wr => ∃ (x c3 : Nat), lo ≤ x ∧ x ≤ hi + 1 ∧ z = .int .u64 x ∧ v = .int .i64 c3 ∧ Hid (c3 = cc + (x - lo)) ∧ wr = w3.drewN (q + nq)) (fun _ z _ => hi + 1 - (intOf z).toNat)
            case atStart => exact ⟨lo, cc, Nat.le_refl _, by omega, rfl, rfl, Lib.hid (by omega), rfl⟩
            case round =>
              obtain ⟨x, c3, hx1, hx2, rfl, rfl, hc3, rfl⟩ := hrel
              by_cases hxh : x ≤ hi
              · have hx60 : x < 60 := by omega
                have hx60I : (x : Int) < 60 := by omega
                have z0 := hAr.out.cell hx60
                rw [hin.out x hx1 hxh] at z0
                have d5 : decide (x ≤ hi) = true := decide_eq_true hxh
                have d5' : decide ((x : Int) ≤ (hi : Int)) = true := decide_eq_true (by omega)
                have hc3b : c3 ≤ 200 := by have := hc3.out; omega
                go_wp2_with fail
                go_roundw
                case rel => exact ⟨x + 1, c3 + 1, by omega, by omega, by go_num, by go_num, Lib.hid (by have := hc3.out; omega), by first | rfl | trivial⟩
                case measure => simp [intOf]; omega
              · have d5 : decide (x ≤ hi) = false := decide_eq_false hxh
                have d5' : decide ((x : Int) ≤ (hi : Int)) = false := decide_eq_false (by omega)
                have hfin : Hid (c3 = rsize (l.take (j + 1))) := Lib.hid (by rw [hrs.out, ← hcc.out, hc3.out]; omega)
                go_wp2_with fail
                go_roundw
                case rel => exact ⟨j + 1, q + nq, c3, by omega, by go_num, rfl, hfin, rfl⟩
                case measure => simp [intOf]; omega
        · have hjL' : j = L := by omega
          have hcce : cc = c := by
            rw [hcc.out, hcs.out, hjL', ← hL.out, List.take_length]
          subst hcce
          replace hjL' := Lib.hid hjL'
          clear hcc
          go_wp2_with fail
          refine (list_two l (T5.out.below (Still.drewN w3 q).below).swap hlt.out.symm).mono ?_
          rintro e w6 ⟨A6, c6, rfl, o6, T6, b6⟩
          have b36 := (Still.drewN w3 q).below.trans (b6.mono (Still.drewN w3 q).below.size)
          have hb6 : Hid (Below w.heap.size w w6) := Lib.hid (hb5.out.trans (b36.mono hb5.out.size))
          have R5 := Lib.hid ((Rd.of_ownS o5.out).below b36)
          have R6 := Lib.hid (Rd.of_ownS o6)
          clear T6 b6 b36 o6 hb5
          rw [hL.out]
          go_wp2_with fail
          refine (samer_n true l l _ _ hL.out hL.out A6 _ c6 _ w6 R6.out R5.out (by rw [hL.out]; omega) (by rw [hL.out]; omega) (decide_eq_true rfl)).mono ?_
          rintro e w7 ⟨rfl, S7⟩
          replace hb6 : Hid (Below w.heap.size w w7) := Lib.hid (hb6.out.trans (S7.below.mono hb6.out.size))
          clear S7 R5 R6
          go_wp2_with fail
          refine (awake_any _).mono ?_
          rintro e wf ⟨rfl, hbf⟩
          go_wp2_with fail
          go_ret
          exact ⟨rfl, hb6.out.trans (hbf.mono hb6.out.size)⟩

set_option maxHeartbeats 2000000 in
theorem ronce_any (gs : List Int) (turn : Int) (A : Option Addr) (cap : Nat) (w : World) (hr : Rd w A (gs.map (Value.int .i64))) (hc : gs.length ≤ 9223372036854775807) :
    Calls Try.prog 3 #[.slice A gs.length cap, .int .i64 turn] w fun e w' => e = .returned (.bool true) ∧ Below w.heap.size w w' := by
  obtain ⟨n, hn⟩ : ∃ n, gs.length = n := ⟨_, rfl⟩
  rw [hn] at hc ⊢
  by_cases h : 0 < n ∧ n ≤ 30
  · exact ronce_in gs turn A cap n w hn hr h.1 h.2
  · rcases Nat.eq_zero_or_pos n with h0 | h0
    · subst h0
      clear hn hr
      go_enter Try.func3, Try.ntmps3
      go_wp2_with fail
      refine (awake_any _).mono ?_
      rintro e wf ⟨rfl, hbf⟩
      go_wp2_with fail
      go_ret
      exact ⟨rfl, hbf⟩
    · have b2 : decide ((30 : Int) < (n : Int)) = true := decide_eq_true (by omega)
      clear hn hr
      go_enter Try.func3, Try.ntmps3
      go_wp2_with fail
      refine (awake_any _).mono ?_
      rintro e wf ⟨rfl, hbf⟩
      go_wp2_with fail
      go_ret
      exact ⟨rfl, hbf⟩
end Go.Proofs.Ytdhdnpagdflgpaa
