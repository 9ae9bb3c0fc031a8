/- RangesBits: it is true at every input. -/
import Derived.Test.YtdhdnpagdflgpaaRgL
import Derived.Deep.RegionHeld3
namespace Go.Proofs.Ytdhdnpagdflgpaa
open Go.RowKit

theorem bel_own2 {w w' : World} {b : Nat} {e : TypeId} {s : Nat} {v : Value} {n : Nat} {xs : List Value} (h : Below w.heap.size w w') (ho : w.ownsRow b e s v n xs) : w'.ownsRow b e s v n xs := own_fr ho (Fr.of_below h NoS) (fun _ _ x => x)

set_option maxRecDepth 100000 in
set_option maxHeartbeats 8000000 in
theorem rbits_any (y f0 : Int) (w : World) (h0 : 0 ≤ y) (h1 : y ≤ 18446744073709551615) :
    Calls Try.prog 5 #[.int .u64 y, .int .i64 f0] w fun e w' => e = .returned (.bool true) ∧ Below w.heap.size w w' := by
  obtain ⟨f, hf, L1⟩ := low_ex f0 64 (by omega) (by omega)
  replace L1 := Lib.hid L1
  have hV : Hid (∀ n, bits BinOp.and IntKind.u64 (y / 2 ^ n) 1 = if bt y n then 1 else 0) := Lib.hid (fun n => bt_val y n h0 h1)
  have hy1 := Lib.hid h1
  go_enter Try.func5, Try.ntmps5
  go_wp2_with fail
  refine (new_at (fun k => k < w.heap.size) w (fun _ h => h) 33 (by omega) (by omega)).mono ?_
  rintro e w1 ⟨p, rfl, H, hb⟩
  replace H := Lib.hid H
  replace hb := Lib.hid hb
  go_wp2_with fail
  refine (L1.out _).mono ?_
  rintro e w2 ⟨rfl, rfl⟩
  clear L1
  go_wp2_with fail
  go_loopw [6] (fun i wr => ∃ (k : Nat) (s : Rs), k ≤ 64 ∧ i = .int .i64 k ∧ Hid (Bt s (bT y f k)) ∧ Hid (SetAt (fun k => k < w.heap.size) wr p s) ∧ Hid (Below w.heap.size w wr)) (fun i _ => 64 - (intOf i).toNat)
  case atStart => exact ⟨0, rsnew 33, by omega, rfl, Lib.hid (Bt.start.eq (fun x => (bT_zero y f x).symm)), H, hb⟩
  case round =>
    clear H hb
    obtain ⟨k, s, hk, rfl, HB, H, hb⟩ := hrel
    by_cases hk64 : k < 64
    · obtain ⟨s0, hs0⟩ : ∃ s0, f + k = s0 := ⟨_, rfl⟩
      obtain ⟨nn, hnn⟩ : ∃ nn, s0 % 64 = nn := ⟨_, rfl⟩
      have i1 : (f : Int) + (k : Int) = (s0 : Int) := by omega
      have i2 : (s0 : Int) % 64 = (nn : Int) := by omega
      have hn64 : nn < 64 := by omega
      have hs0b : s0 ≤ 200 := by omega
      have hfk : Hid ((f + k) % 64 = nn) := Lib.hid (by rw [hs0]; exact hnn)
      have hv := hV.out nn
      cases hbt : bt y nn
      · rw [hbt] at hv
        simp only [Bool.false_eq_true, if_false] at hv
        have HB2 : Hid (Bt s (bT y f (k + 1))) := Lib.hid (HB.out.eq (fun x => bT_no y f k nn hf hk64 hfk.out hbt x))
        replace hbt := Lib.hid hbt
        clear hs0 hnn
        go_wp2_with fail
        go_roundw
        case rel => exact ⟨k + 1, s, by omega, by go_num, HB2, H, hb⟩
        case measure => simp [intOf]; omega
      · rw [hbt] at hv
        simp only [if_true] at hv
        have hT := bT_new y f k nn hf hk64 hfk.out
        have q1 : Hid (s.has nn = false) := Lib.hid (by rw [HB.out.has]; exact hT)
        obtain ⟨s2, hs2⟩ : ∃ s2, s.add nn = s2 := ⟨_, rfl⟩
        have HB2 : Hid (Bt s2 (bT y f (k + 1))) := Lib.hid (by rw [← hs2]; exact (HB.out.add nn hn64 hT).eq (fun x => bT_yes y f k nn hf hk64 hfk.out hbt x))
        have q2 : Hid (s2.has nn = true) := Lib.hid (by
          rw [← hs2, (HB.out.add nn hn64 hT).has]; simp)
        replace hs2 := Lib.hid hs2
        replace hbt := Lib.hid hbt
        clear hs0 hnn hT
        go_wp2_with fail
        refine (add_at s2 H.out nn (by omega) q1.out hs2.out).mono ?_
        rintro e w3 ⟨rfl, H3, F3⟩
        replace hb : Hid (Below w.heap.size w w3) := Lib.hid (fp_below hb.out hb.out.size (fun _ h => h) F3)
        replace H3 := Lib.hid H3
        clear H F3
        go_wp2_with fail
        refine (addno_at H3.out nn (.inr ⟨by omega, q2.out⟩)).mono ?_
        rintro e w4 ⟨rfl, H4, b4⟩
        replace hb : Hid (Below w.heap.size w w4) := Lib.hid (hb.out.trans (b4.mono hb.out.size))
        replace H4 := Lib.hid H4
        clear H3 b4
        go_wp2_with fail
        go_roundw
        case rel => exact ⟨k + 1, s2, by omega, by go_num, HB2, H4, hb⟩
        case measure => simp [intOf]; omega
    · have hk4 : k = 64 := by omega
      have HE : Hid (Bt s (bE y)) := Lib.hid (by
        have := HB.out
        rw [hk4] at this
        exact this.eq (fun x => bT_end y f x))
      replace hk4 := Lib.hid hk4
      clear HB hk
      obtain ⟨wo, rfl⟩ : ∃ wo : World, wo = wr := ⟨_, rfl⟩
      have hB2 := hb.out.size
      go_wp2_with fail
      clear hk64
      go_loopw [8, 9] (fun v i wr => ∃ (j : Nat) (z : Int) (W : List Rg) (Aw : Option Addr) (c : Nat), j ≤ 64 ∧ i = .int .i64 z ∧ Hid (z = (j : Int) - 1) ∧ v = .slice Aw W.length c ∧ Hid (Wt (bE y) W j) ∧ Hid (wr.ownsRow wo.heap.size 33 2 (.slice Aw W.length c) W.length (rgv W)) ∧ Hid (Below wo.heap.size wo wr)) (fun _ i _ => (intOf i + 1).toNat)
      case atStart => exact ⟨64, 63, [], none, 0, by omega, rfl, Lib.hid (by omega), rfl, Lib.hid (Wt.start y), Lib.hid (World.ownsRow_nil _ _ _ _), Lib.hid (Below.refl _ _)⟩
      case round =>
        obtain ⟨j, z, W, Aw, c, hj, rfl, hz, rfl, HW, HO, hB⟩ := hrel
        by_cases hj0 : j = 0
        · obtain rfl : z = -1 := by have := hz.out; omega
          subst hj0
          have hWs := Wt.done HW.out HE.out
          have hem := HE.out.empty h0 hy1.out
          obtain ⟨n, hn⟩ : ∃ n, (s.l.head?.map Rg.hi).getD 0 = n := ⟨_, rfl⟩
          obtain ⟨L, hL⟩ : ∃ L, W.length = L := ⟨_, rfl⟩
          rw [hL] at HO ⊢
          obtain ⟨b, hbb⟩ : ∃ b, (y != 0) = b := ⟨_, rfl⟩
          rw [hbb] at hem
          have H2 := Lib.hid (H.out.below hB.out)
          have hb2 : Hid (Below w.heap.size w wr) := Lib.hid (hb.out.trans (hB.out.mono hB2))
          have hs33 : Hid (s.l.length ≤ 1000000) := Lib.hid (by have := HE.out.ok.len; have := HE.out.most; omega)
          have hcell : b = true → ∃ g, Aw = some ⟨g, 0, none⟩ ∧ 0 < L ∧ ∀ W' : World, Below wr.heap.size wr W' → W'.cell? ⟨g, 1, none⟩ = some (.int .u64 n) := by
            intro hbt
            rw [hbt] at hem
            rcases hl : s.l with _ | ⟨r, t⟩
            · rw [hl] at hem; cases hem
            · have hL0 : 0 < L := by rw [← hL, ← hWs, hl]; simp
              rcases ownS_cases HO.out with ⟨_, h2, _⟩ | ⟨g, h2, _⟩
              · omega
              · subst h2
                refine ⟨g, rfl, hL0, fun W' hb' => ?_⟩
                obtain ⟨b', off', e, -, y1⟩ := load_rg (Rd.of_ownS (bel_own2 hb' HO.out)) (k := 0) (by omega)
                injection e with e
                injection e with e1 e2
                subst e1 e2
                have hn2 : n = r.hi := by rw [← hn, hl]; rfl
                have e3 : W[0]'(by omega) = r := by simp only [← hWs, hl, List.getElem_cons_zero]
                rw [e3, ← hn2] at y1
                exact y1
          replace hn := Lib.hid hn
          replace hem := Lib.hid hem
          replace hWs := Lib.hid hWs
          replace hL := Lib.hid hL
          have HO' := Lib.hid HO.out
          clear HW HO hz hj
          cases b
          · clear hcell
            have hbb' : (y == 0) = true := by simpa using hbb
            go_wp2_with fail
            refine (largest_at n false H2.out hn.out hem.out).mono ?_
            rintro e w3 ⟨rfl, S3⟩
            replace HO' := Lib.hid (S3.own HO'.out)
            replace hb2 : Hid (Below w.heap.size w w3) := Lib.hid (hb2.out.trans (S3.below.mono hb2.out.size))
            replace H2 := Lib.hid (H2.out.still S3)
            clear S3
            go_wp2_with fail
            refine (list_at s.l H2.out rfl).mono ?_
            rintro e w4 ⟨A4, c4, rfl, o4, H4, b4⟩
            have R4 := Lib.hid (Rd.of_ownS o4)
            have R5 := Lib.hid (Rd.of_ownS (bel_own2 b4 HO'.out))
            replace hb2 : Hid (Below w.heap.size w w4) := Lib.hid (hb2.out.trans (b4.mono hb2.out.size))
            clear o4 b4 H4 H2 HO'
            go_wp2_with fail
            refine (samer_n true s.l W _ _ rfl hL.out A4 _ c4 _ w4 R4.out R5.out hs33.out (by rw [← hWs.out]; exact hs33.out) (by rw [hWs.out]; exact decide_eq_true rfl)).mono ?_
            rintro e w5 ⟨rfl, S5⟩
            replace hb2 : Hid (Below w.heap.size w w5) := Lib.hid (hb2.out.trans (S5.below.mono hb2.out.size))
            clear S5 R4 R5
            go_wp2_with fail
            refine (awake_any _).mono ?_
            rintro e wf ⟨rfl, hbf⟩
            go_wp2_with fail
            go_ret
            exact ⟨rfl, hb2.out.trans (hbf.mono hb2.out.size)⟩
          · obtain ⟨g, rfl, hL0, hcell⟩ := hcell rfl
            have hLI : (0 : Int) < (L : Int) := by omega
            have hcell' := Lib.hid hcell
            have hnn : ((n : Int) == (n : Int)) = true := by simp
            have hbb' : (y == 0) = false := by simpa using hbb
            clear hcell
            go_wp2_with fail
            refine (largest_at n true H2.out hn.out hem.out).mono ?_
            rintro e w3 ⟨rfl, S3⟩
            have B3 := S3.below
            replace HO' := Lib.hid (S3.own HO'.out)
            replace hb2 : Hid (Below w.heap.size w w3) := Lib.hid (hb2.out.trans (S3.below.mono hb2.out.size))
            replace H2 := Lib.hid (H2.out.still S3)
            clear S3
            replace B3 := Lib.hid B3
            go_wp2_with fail
            refine (list_at s.l H2.out rfl).mono ?_
            rintro e w4 ⟨A4, c4, rfl, o4, H4, b4⟩
            have R4 := Lib.hid (Rd.of_ownS o4)
            have R5 := Lib.hid (Rd.of_ownS (bel_own2 b4 HO'.out))
            replace hb2 : Hid (Below w.heap.size w w4) := Lib.hid (hb2.out.trans (b4.mono hb2.out.size))
            replace B3 := Lib.hid (B3.out.trans (b4.mono B3.out.size))
            clear o4 b4 H4 H2 HO'
            go_wp2_with fail
            refine (samer_n true s.l W _ _ rfl hL.out A4 _ c4 _ w4 R4.out R5.out hs33.out (by rw [← hWs.out]; exact hs33.out) (by rw [hWs.out]; exact decide_eq_true rfl)).mono ?_
            rintro e w5 ⟨rfl, S5⟩
            have hc5 := hcell'.out w5 (B3.out.trans (S5.below.mono B3.out.size))
            replace hb2 : Hid (Below w.heap.size w w5) := Lib.hid (hb2.out.trans (S5.below.mono hb2.out.size))
            clear S5 R4 R5 B3 hcell'
            go_wp2_with fail
            refine (awake_any _).mono ?_
            rintro e wf ⟨rfl, hbf⟩
            go_wp2_with fail
            go_ret
            exact ⟨rfl, hb2.out.trans (hbf.mono hb2.out.size)⟩
        · obtain ⟨n, rfl⟩ : ∃ n, j = n + 1 := ⟨j - 1, by omega⟩
          obtain rfl : z = (n : Int) := by have := hz.out; omega
          have hn64 : n < 64 := by omega
          have hv := hV.out n
          obtain ⟨Y, hY⟩ : ∃ Y, y / 2 ^ n = Y := ⟨_, rfl⟩
          have hsh : Op.shift .shr .u64 y .i64 (n : Int) = pure (.int .u64 Y) := by
            rw [shift_shr_any _ _ _ _ (by omega), ← hY]
            have : min ((n : Int)).toNat IntKind.u64.bits = n := by show min ((n : Int)).toNat 64 = n; omega
            rw [this]
          have hv2 := hv
          rw [hY] at hv
          replace hY := Lib.hid hY
          have hTn : bE y n = bt y n := by unfold bE; rw [decide_eq_true hn64, Bool.true_and]
          have hle : Hid (∀ r ∈ W, r.lo ≤ 63) := Lib.hid (fun r hr => by
            have := (HW.out.mem r.lo).symm.trans ((rmem_iff _ _).2 ⟨r, hr, Nat.le_refl _, HW.out.ok.le r hr⟩)
            rw [Bool.and_eq_true] at this
            have := bE_lt y _ this.1
            omega)
          have hWl : W.length ≤ 33 := by
            have h2 := rok_len W 63 HW.out.ok (fun r hr => by
              have := (HW.out.mem r.hi).symm.trans ((rmem_iff _ _).2 ⟨r, hr, HW.out.ok.le r hr, Nat.le_refl _⟩)
              rw [Bool.and_eq_true] at this
              have := bE_lt y _ this.1
              omega)
            omega
          replace hz := Lib.hid hz
          clear hj0 hz
          have H2 := Lib.hid (H.out.below hB.out)
          cases hbt : bt y n
          · rw [hbt] at hv hv2 hTn
            simp only [Bool.false_eq_true, if_false] at hv hv2
            have HW2 : Hid (Wt (bE y) W n) := Lib.hid (HW.out.skip hTn)
            have q1 : Hid (s.has n = false) := Lib.hid (by rw [HE.out.has]; exact hTn)
            replace hbt := Lib.hid hbt
            replace hTn := Lib.hid hTn
            obtain ⟨L, hL⟩ : ∃ L, W.length = L := ⟨_, rfl⟩
            rw [hL] at HO ⊢
            replace hL := Lib.hid hL
            go_wp2_with fail
            have HD := Lib.hid (H2.out.still (Still.drew wr))
            have hwn : IntKind.u64.wrap (n : Int) = (n : Int) := by rw [IntKind.wrap_u64]; omega
            go_region_held3 (fun _ => True) (trivial) (first
              | (go_at_call 14; refine (has_at false HD.out n q1.out).mono ?_; rintro e w3 ⟨rfl, H3, b3d⟩))
            have b3 : Below wr.heap.size wr w3 := (Still.drew wr).below.trans b3d
            clear b3d HD hwn
            replace HO := Lib.hid (bel_own2 b3 HO.out)
            replace hB : Hid (Below wo.heap.size wo w3) := Lib.hid (hB.out.trans (b3.mono hB.out.size))
            clear b3 H3 H2
            go_wp2_with fail
            go_roundw
            case rel => exact ⟨n, (n : Int) - 1, W, _, _, by omega, by go_num, Lib.hid rfl, by rw [hL.out], HW2, by rw [hL.out]; exact HO, hB⟩
            case measure => simp [intOf]
          · rw [hbt] at hv hv2 hTn
            simp only [if_true] at hv hv2
            have q1 : Hid (s.has n = true) := Lib.hid (by rw [HE.out.has]; exact hTn)
            obtain ⟨L, hL⟩ : ∃ L, W.length = L := ⟨_, rfl⟩
            have HO' := HO.out
            rw [hL] at HO' ⊢
            rw [hL] at hWl
            replace hbt := Lib.hid hbt
            by_cases hj1 : ∃ V r, W = V ++ [r] ∧ r.lo = n + 1
            · obtain ⟨V, r, hWV, hrl⟩ := hj1
              obtain ⟨q, hq⟩ : ∃ q, V.length = q := ⟨_, rfl⟩
              have hLq : L = q + 1 := by rw [← hL, hWV]; simp [hq]
              have hLI : (L : Int) - 1 = (q : Int) := by omega
              obtain ⟨n1, hn1⟩ : ∃ n1, n + 1 = n1 := ⟨_, rfl⟩
              have hn1I : (n : Int) + 1 = (n1 : Int) := by omega
              have hL0 : 0 < L := by omega
              have hqL : q < L := by omega
              have hqI : (q : Int) < (L : Int) := by omega
              have bq : ((n1 : Int) == (n1 : Int)) = true := by simp
              have HW2 : Hid (Wt (bE y) (V ++ [⟨n, r.hi⟩]) n) := Lib.hid (by
                have := HW.out
                rw [hWV] at this
                exact this.join hrl hTn)
              obtain ⟨g, rfl, hgB, _⟩ : ∃ g, Aw = some ⟨g, 0, none⟩ ∧ wo.heap.size ≤ g ∧ g < wr.heap.size := by
                rcases ownS_cases HO' with ⟨_, h2, _⟩ | ⟨g, h2, h3, h4, _⟩
                · omega
                · exact ⟨g, h2, h3, h4⟩
              have hWq : W[q]? = some r := by rw [hWV, List.getElem?_append_right (by omega), hq, Nat.sub_self]; rfl
              have hst : Hid (∀ W', Below wr.heap.size wr W' → W'.cell? ⟨g, q * 2, none⟩ = some (.int .u64 n1) ∧ W'.frozen? ⟨g, q * 2, none⟩ = false ∧
                  (W'.setCell ⟨g, q * 2, none⟩ (.int .u64 n)).ownsRow wo.heap.size 33 2 (.slice (some ⟨g, 0, none⟩) L c) L (rgv (V ++ [⟨n, r.hi⟩]))) := Lib.hid (fun W' hb' => by
                have ho := bel_own2 hb' HO'
                refine ⟨?_, ho.frozenAt _, ?_⟩
                · obtain ⟨b', off', e, y0, -⟩ := load_rg (l := W) (Rd.of_ownS ho) (k := q) (by omega)
                  injection e with e
                  injection e with e1 e2
                  subst e1 e2
                  rw [(List.getElem?_eq_some_iff.1 hWq).2, Nat.zero_add, hrl, hn1] at y0
                  exact y0
                · have := (ho.stored (q * 2) (.int .u64 n)).1
                  rw [rgv_setlo W q n (by omega), (List.getElem?_eq_some_iff.1 hWq).2] at this
                  have e : W.set q ⟨n, r.hi⟩ = V ++ [⟨n, r.hi⟩] := by rw [hWV, List.set_append_right _ _ (by omega), hq, Nat.sub_self]; rfl
                  rwa [e] at this)
              have hL2 : Hid ((V ++ [(⟨n, r.hi⟩ : Rg)]).length = L) := Lib.hid (by simp [hq]; omega)
              replace hWV := Lib.hid hWV
              replace hL := Lib.hid hL
              replace hWq := Lib.hid hWq
              replace hrl := Lib.hid hrl
              replace hTn := Lib.hid hTn
              replace hLq := Lib.hid hLq
              clear hq HO HO' HW hn1
              go_wp2_with fail
              have HD := Lib.hid (H2.out.still (Still.drew wr))
              have hwn : IntKind.u64.wrap (n : Int) = (n : Int) := by rw [IntKind.wrap_u64]; omega
              go_region_held3 (fun _ => True) (trivial) (first
                | (go_at_call 14; refine (has_at true HD.out n q1.out).mono ?_; rintro e w3 ⟨rfl, H3, b3d⟩))
              have b3 : Below wr.heap.size wr w3 := (Still.drew wr).below.trans b3d
              clear b3d HD hwn
              obtain ⟨x1, x2, x3⟩ := hst.out w3 b3
              have hB3 : Hid (Below wo.heap.size wo w3) := Lib.hid (hB.out.trans (b3.mono hB.out.size))
              have hB4 : Hid (Below wo.heap.size wo (w3.setCell ⟨g, q * 2, none⟩ (.int .u64 n))) := Lib.hid (Fr.under hB3.out hB3.out.size ((Fr.refl (fun x => x = g) w3).setCell (p := ⟨g, q * 2, none⟩) (fun _ => rfl) _) (fun x hx _ => by omega))
              replace x3 := Lib.hid x3
              clear b3 H3 H2 hst hB hB3
              go_wp2_with fail
              go_roundw
              case rel => exact ⟨n, (n : Int) - 1, V ++ [⟨n, r.hi⟩], some ⟨g, 0, none⟩, c, by omega, by go_num, Lib.hid rfl, by rw [hL2.out], HW2, by rw [hL2.out]; exact x3, hB4⟩
              case measure => simp [intOf]
            · have HW2 : Hid (Wt (bE y) (W ++ [⟨n, n⟩]) n) := Lib.hid (HW.out.push (fun r hr hlo => hj1 (by
                obtain ⟨V, hV⟩ := List.getLast?_eq_some_iff.1 hr
                exact ⟨V, r, hV, hlo⟩)) hTn)
              have hrow : Hid (rgv W ++ [.int .u64 n, .int .u64 n] = rgv (W ++ [⟨n, n⟩])) := Lib.hid (by rw [rgv_append]; rfl)
              have hL2 : Hid ((W ++ [(⟨n, n⟩ : Rg)]).length = L + 1) := Lib.hid (by simp [hL])
              have hbe : (L = 0 ∧ decide ((0 : Int) < (L : Int)) = false ∧ decide (0 < L) = false) ∨ (∃ q lo g, L = q + 1 ∧ lo ≤ 63 ∧ lo ≠ n + 1 ∧ Aw = some ⟨g, 0, none⟩ ∧ Hid (∀ W', Below wr.heap.size wr W' → W'.cell? ⟨g, q * 2, none⟩ = some (.int .u64 (lo : Nat)))) := by
                rcases List.eq_nil_or_concat W with hW0 | ⟨V, r, hWV⟩
                · refine .inl ?_
                  have : L = 0 := by rw [← hL, hW0]; rfl
                  exact ⟨this, decide_eq_false (by omega), decide_eq_false (by omega)⟩
                · refine .inr ?_
                  have hLq : L = V.length + 1 := by rw [← hL, hWV]; simp
                  rcases ownS_cases HO' with ⟨_, h2, _⟩ | ⟨g, h2, h3, h4, _⟩
                  · omega
                  · subst h2
                    have hWq : W[V.length]? = some r := by rw [hWV]; simp
                    refine ⟨V.length, r.lo, g, hLq, hle.out r (List.mem_of_getElem? hWq), fun e => hj1 ⟨V, r, by simpa using hWV, e⟩, rfl, Lib.hid (fun W' hb' => ?_)⟩
                    obtain ⟨b', off', e, y0, -⟩ := load_rg (l := W) (Rd.of_ownS (bel_own2 hb' HO')) (k := V.length) (by omega)
                    injection e with e
                    injection e with e1 e2
                    subst e1 e2
                    rw [(List.getElem?_eq_some_iff.1 hWq).2, Nat.zero_add] at y0
                    exact y0
              replace hL := Lib.hid hL
              replace hTn := Lib.hid hTn
              clear hj1 HW HO
              rcases hbe with ⟨hL0, bd1, bd2⟩ | ⟨q, lo, g, hLq, hlo63, hlon, rfl, hcl⟩
              · obtain rfl : L = 0 := hL0
                clear bd1 bd2
                go_wp2_with fail
                have HD := Lib.hid (H2.out.still (Still.drew wr))
                have hwn : IntKind.u64.wrap (n : Int) = (n : Int) := by rw [IntKind.wrap_u64]; omega
                go_region_held3 (fun _ => True) (trivial) (first
                  | (go_at_call 14; refine (has_at true HD.out n q1.out).mono ?_; rintro e w3 ⟨rfl, H3, b3d⟩))
                have b3 : Below wr.heap.size wr w3 := (Still.drew wr).below.trans b3d
                clear b3d HD hwn
                have O3 := Lib.hid (bel_own2 b3 HO')
                have hB3 : Hid (Below wo.heap.size wo w3) := Lib.hid (hB.out.trans (b3.mono hB.out.size))
                clear b3 H3 H2 HO' hB
                go_wp2_with (at_builtin; refine wpList_appS rfl _ _ 30 rfl wo.heap.size 33 _ 2 16 infoR Try.underlying30 rfl (by decide) (.slice Aw 0 c) 0 (rgv W) rfl (O3.out.alloc _) ⟨w3.heap.size, 0, none⟩ 1 1 [.int .u64 n, .int .u64 n] rfl rfl (Rd.fresh_mark w3 [.int .u64 n, .int .u64 n] _ _).cells (rgo ⟨n, n⟩) (by simp only [maxLen]; omega) (by omega) (by have := hB3.out.size; simp; omega) ?_; intro A4 c4 w4 ho4 hg4 _; have hB4 := Lib.hid (Fr.under hB3.out hB3.out.size (((Fr.refl (fun q => (Value.slice Aw 0 c).ownBlock = some q) w3).alloc _).grown hg4 (fun _ hq _ => hq)) (fun q hq _ => (O3.out.lt q hq).1)); rw [hrow.out] at ho4; replace ho4 := Lib.hid ho4; clear hg4)
                go_roundw
                case rel => exact ⟨n, (n : Int) - 1, W ++ [⟨n, n⟩], A4, c4, by omega, by go_num, Lib.hid rfl, by rw [hL2.out], HW2, by rw [hL2.out]; exact ho4, hB4⟩
                case measure => simp [intOf]
              · have hLI : (L : Int) - 1 = (q : Int) := by omega
                have hL0 : 0 < L := by omega
                have hqL : q < L := by omega
                have hqI : (q : Int) < (L : Int) := by omega
                obtain ⟨n1, hn1⟩ : ∃ n1, n + 1 = n1 := ⟨_, rfl⟩
                have hn1I : (n : Int) + 1 = (n1 : Int) := by omega
                have bq : ((lo : Int) == (n1 : Int)) = false := by rw [beq_eq_false_iff_ne]; omega
                replace hLq := Lib.hid hLq
                clear hn1 hlon
                go_wp2_with fail
                have HD := Lib.hid (H2.out.still (Still.drew wr))
                have hwn : IntKind.u64.wrap (n : Int) = (n : Int) := by rw [IntKind.wrap_u64]; omega
                go_region_held3 (fun _ => True) (trivial) (first
                  | (go_at_call 14; refine (has_at true HD.out n q1.out).mono ?_; rintro e w3 ⟨rfl, H3, b3d⟩))
                have b3 : Below wr.heap.size wr w3 := (Still.drew wr).below.trans b3d
                clear b3d HD hwn
                have x1 := hcl.out w3 b3
                have O3 := Lib.hid (bel_own2 b3 HO')
                have hB3 : Hid (Below wo.heap.size wo w3) := Lib.hid (hB.out.trans (b3.mono hB.out.size))
                clear b3 H3 H2 HO' hB hcl
                go_wp2_with (at_builtin; refine wpList_appS rfl _ _ 30 rfl wo.heap.size 33 _ 2 16 infoR Try.underlying30 rfl (by decide) (.slice (some ⟨g, 0, none⟩) L c) L (rgv W) rfl (O3.out.alloc _) ⟨w3.heap.size, 0, none⟩ 1 1 [.int .u64 n, .int .u64 n] rfl rfl (Rd.fresh_mark w3 [.int .u64 n, .int .u64 n] _ _).cells (rgo ⟨n, n⟩) (by simp only [maxLen]; omega) (by omega) (by have := hB3.out.size; simp; omega) ?_; intro A4 c4 w4 ho4 hg4 _; have hB4 := Lib.hid (Fr.under hB3.out hB3.out.size (((Fr.refl (fun q => (Value.slice (some ⟨g, 0, none⟩) L c).ownBlock = some q) w3).alloc _).grown hg4 (fun _ hq _ => hq)) (fun q hq _ => (O3.out.lt q hq).1)); rw [hrow.out] at ho4; replace ho4 := Lib.hid ho4; clear hg4)
                go_roundw
                case rel => exact ⟨n, (n : Int) - 1, W ++ [⟨n, n⟩], A4, c4, by omega, by go_num, Lib.hid rfl, by rw [hL2.out], HW2, by rw [hL2.out]; exact ho4, hB4⟩
                case measure => simp [intOf]
end Go.Proofs.Ytdhdnpagdflgpaa
