/- RangesRising: it is true at every input. -/
import Derived.Test.YtdhdnpagdflgpaaRgJ
namespace Go.Proofs.Ytdhdnpagdflgpaa
open Go.RowKit

theorem bel_own {w w' : World} {b : Nat} {e : TypeId} {s : Nat} {v : Value} {n : Nat} {xs : List Value} (h : Below w.heap.size w w') (ho : w.ownsRow b e s v n xs) : w'.ownsRow b e s v n xs := own_fr ho (Fr.of_below h NoS) (fun _ _ x => x)
theorem own_np {P : Nat → Prop} {w w' : World} {b : Nat} {e : TypeId} {s : Nat} {A : Option Addr} {n c : Nat} {xs : List Value} (F : Fr (NotP P) w w') (ho : w.ownsRow b e s (.slice A n c) n xs) (hP : ∀ a, A = some a → P a.block) : w'.ownsRow b e s (.slice A n c) n xs :=
  own_fr ho F (fun k hk hn => by
    cases A with
    | none => cases hk
    | some a => injection hk with hk; subst hk; exact hn (hP a rfl))

set_option maxRecDepth 100000 in
set_option maxHeartbeats 8000000 in
theorem rising_in (most : Int) (gs : List Int) (A : Option Addr) (cap n : Nat) (w : World) (hn : gs.length = n) (hr : Rd w A (gs.map (Value.int .i64))) (h30 : n ≤ 30) :
    Calls Try.prog 6 #[.int .i64 most, .slice A n cap] w fun e w' => e = .returned (.bool true) ∧ Below w.heap.size w w' := by
  have b2 : decide ((30 : Int) < (n : Int)) = false := decide_eq_false (by omega)
  obtain ⟨r, hr12, L1⟩ := low_ex most 12 (by omega) (by omega)
  obtain ⟨mo, hmo⟩ : ∃ mo, 1 + r = mo := ⟨_, rfl⟩
  have hmoI : 1 + (r : Int) = (mo : Int) := by omega
  have hmo1 : 1 ≤ mo := by omega
  have hmo12 : mo ≤ 12 := by omega
  replace L1 := Lib.hid L1
  have HR := Lib.hid hr
  replace hn := Lib.hid hn
  clear hmo hr
  go_enter Try.func6, Try.ntmps6
  go_wp2_with fail
  refine (L1.out _).mono ?_
  rintro e w1 ⟨rfl, rfl⟩
  clear L1
  go_wp2_with fail
  refine (new_at (Pw w.heap.size none) w (fun k h => by rcases h with h | ⟨_, h, _⟩; exact h; cases h) mo hmo1 (by omega)).mono ?_
  rintro e w1 ⟨p, rfl, H, hb⟩
  replace H := Lib.hid H
  replace hb := Lib.hid hb
  clear hmoI hr12
  go_wp2_with fail
  clear b2
  go_loopw [6, 7, 8, 9] (fun x v f i wr => ∃ (k m : Nat) (s : Rs) (Aw : Option Addr) (c : Nat), k ≤ n ∧ i = .int .i64 k ∧ x = .int .u64 m ∧ v = .slice Aw s.l.length c ∧ f = .int .u64 s.floor ∧ Hid (Ri mo s m k) ∧ Hid (SetAt (Pw w.heap.size Aw) wr p s) ∧
    Hid (wr.ownsRow w.heap.size 33 2 (.slice Aw s.l.length c) s.l.length (rgv s.l)) ∧ Hid (Below w.heap.size w wr) ∧ Hid (s.l = [] → Aw = none ∧ c = 0)) (fun _ _ _ i _ => n - (intOf i).toNat)
  case atStart => exact ⟨0, 0, rsnew mo, none, 0, by omega, rfl, rfl, rfl, rfl, Lib.hid (Ri.start mo), H, Lib.hid (World.ownsRow_nil _ _ _ _), hb, Lib.hid (fun _ => ⟨rfl, rfl⟩)⟩
  case round =>
    clear H hb
    obtain ⟨k, m, s, Aw, c, hk, rfl, rfl, rfl, rfl, HI, H, HO, hb, HN⟩ := hrel
    by_cases hkn : k < n
    · obtain ⟨b, off, rfl, hcell⟩ := (HR.out.below hb.out).at_ (k := k) (by simp; have := hn.out; omega)
      rw [List.getElem_map] at hcell
      obtain ⟨x, hx⟩ : ∃ x, gs[k]'(by have := hn.out; omega) = x := ⟨_, rfl⟩
      rw [hx] at hcell
      obtain ⟨g, hg, L⟩ := low_ex x 3 (by omega) (by omega)
      obtain ⟨N, hN⟩ : ∃ N, m + 1 + g = N := ⟨_, rfl⟩
      have hNI : (m : Int) + 1 + (g : Int) = (N : Int) := by omega
      have hmb : m ≤ 90 := by have := HI.out.bd; omega
      have hNb : N ≤ 200 := by omega
      have hnew : Hid (s.has N = false) := Lib.hid (by rw [← hN]; exact HI.out.new)
      obtain ⟨s2, hs2⟩ : ∃ s2, s.add N = s2 := ⟨_, rfl⟩
      obtain ⟨L0, hL0⟩ : ∃ L0, s.l.length = L0 := ⟨_, rfl⟩
      obtain ⟨F0, hF0⟩ : ∃ F0, s.floor = F0 := ⟨_, rfl⟩
      have hlm : L0 ≤ mo := by have := HI.out.ok.len; rw [HI.out.most] at this; omega
      have hF0b : F0 ≤ 100 := by have := HI.out.fl; omega
      have HO' := HO.out
      rw [hL0] at HO' ⊢
      rw [hF0]
      replace HO' := Lib.hid HO'
      clear HO
      replace L := Lib.hid L
      replace hs2 := Lib.hid hs2
      clear hx
      go_wp2_with fail
      refine (L.out _).mono ?_
      rintro e w2 ⟨rfl, rfl⟩
      clear L
      go_wp2_with fail
      refine (add_at s2 H.out N (by omega) hnew.out hs2.out).mono ?_
      rintro e w2 ⟨rfl, H2, F2⟩
      replace hb : Hid (Below w.heap.size w w2) := Lib.hid (fp_below hb.out hb.out.size (fun _ h => .inl h) F2)
      replace H2 := Lib.hid H2
      have O2 := Lib.hid (own_np F2 HO'.out (fun a ha => .inr ⟨a, ha, rfl⟩))
      clear H F2 HO' hcell hnew
      by_cases hE : s.l = []
      case' pos =>
        obtain ⟨rfl, rfl⟩ := HN.out hE
        obtain rfl : L0 = 0 := by rw [← hL0, hE]; rfl
        obtain ⟨r1, r2, -⟩ := HI.out.apart (g := g) (.inl hE) hmo1 (by omega) hg
        rw [hN, hs2.out] at r1 r2
        have e2 := r2 (by rw [hL0]; omega)
        rw [hE] at e2
        have hB2 := hb.out.size
        have hb1 : decide (mo < 1) = false := decide_eq_false (by omega)
        have hb1' : decide ((mo : Int) < 1) = false := decide_eq_false (by omega)
        have hlit := Lib.hid (World.ownsRow_lit (e := 33) (size := 2) w2 #[.int .u64 N, .int .u64 N] 1 hB2 (by simp [maxLen]) rfl)
        replace hL0 := Lib.hid hL0
        replace hF0 := Lib.hid hF0
        replace r1 := Lib.hid r1
        replace e2 := Lib.hid e2
        have hE' := Lib.hid hE
        clear hN r2 hE hNI
        go_wp2_with (at_builtin; refine wpList_appN rfl _ _ 30 rfl w.heap.size 33 _ 2 16 infoR Try.underlying30 (.slice (some ⟨w2.heap.size, 0, none⟩) 1 1) 1 [.int .u64 N, .int .u64 N] rfl hlit.out rfl ?_)
        have hL2 : Hid (s2.l.length = 1) := Lib.hid (by rw [e2.out]; rfl)
        have hF2 : Hid (s2.floor = F0) := Lib.hid (by rw [e2.out]; exact hF0.out)
        obtain ⟨F2, rfl⟩ : ∃ F2, F2 = F0 := ⟨_, rfl⟩
        have b5 : Below w2.heap.size w2 (w2.alloc (.cells #[.int .u64 N, .int .u64 N] 33)) := (Below.refl _ w2).alloc (Nat.le_refl _) _
        have H5 : Hid (SetAt (Pw w.heap.size (some ⟨w2.heap.size, 0, none⟩)) (w2.alloc (.cells #[.int .u64 N, .int .u64 N] 33)) p s2) := Lib.hid (H2.out.widen (fun q hq => by
          rcases hq with h | ⟨a, ha, h⟩
          · exact .inl (.inl h)
          · injection ha with ha; subst ha; simp only at h; exact .inr (by omega)) b5 (fun q hq => by
          rcases hq with h | ⟨a, ha, h⟩
          · simp; omega
          · injection ha with ha; subst ha; simp only at h; simp; omega))
        have hb5 : Hid (Below w.heap.size w (w2.alloc (.cells #[.int .u64 N, .int .u64 N] 33))) := Lib.hid (hb.out.trans (b5.mono hB2))
        have o5 : Hid ((w2.alloc (.cells #[.int .u64 N, .int .u64 N] 33)).ownsRow w.heap.size 33 2 (.slice (some ⟨w2.heap.size, 0, none⟩) 1 1) 1 (rgv s2.l)) := Lib.hid (by rw [e2.out]; exact hlit.out)
        clear b5 H2 O2 hb hb1 hb1' hlit hE' HN hL0 hF0 e2 hlm
      case' neg =>
        obtain ⟨r, t, hl⟩ := List.exists_cons_of_ne_nil hE
        have hr : r.hi = m := HI.out.top r (by rw [hl]; rfl)
        have hL1 : 0 < L0 := by rw [← hL0, hl]; simp
        obtain ⟨gw, rfl, hgB, hgl, hcc, hcm⟩ : ∃ gw, Aw = some ⟨gw, 0, none⟩ ∧ w.heap.size ≤ gw ∧ gw < w2.heap.size ∧ L0 ≤ c ∧ c ≤ maxLen := by
          rcases ownS_cases O2.out with ⟨_, h1, _⟩ | h1
          · omega
          · exact h1
        have hB2 := hb.out.size
        have hcl : w2.cell? ⟨gw, 1, none⟩ = some (.int .u64 m) := by
          obtain ⟨b', off', e, -, y1⟩ := load_rg (Rd.of_ownS O2.out) (k := 0) (by omega)
          injection e with e
          injection e with e1 e2
          subst e1 e2
          simp only [hl, List.getElem_cons_zero, hr] at y1
          exact y1
        have hLI : (0 : Int) < (L0 : Int) := by omega
        by_cases hg0 : g = 0
        case' pos =>
          subst hg0
          obtain ⟨r1, e2⟩ := HI.out.join hl hmo1 (by omega)
          simp only [Nat.add_zero] at hN
          rw [hN, hs2.out] at r1 e2
          have hm1 : (m : Int) + 1 = (N : Int) := by omega
          have bq : ((N : Int) == (N : Int)) = true := by simp
          have f1 := O2.out.frozenAt 1
          have bt : decide (mo < L0) = false := decide_eq_false (by omega)
          have hL2 : Hid (s2.l.length = L0) := Lib.hid (by rw [e2, ← hL0, hl]; rfl)
          have hF2 : Hid (s2.floor = F0) := Lib.hid (by rw [e2]; exact hF0)
          obtain ⟨F2, rfl⟩ : ∃ F2, F2 = F0 := ⟨_, rfl⟩
          have F5 : Fr (fun q => q = gw) w2 (w2.setCell ⟨gw, 1, none⟩ (.int .u64 N)) := (Fr.refl (fun q => q = gw) w2).setCell (p := ⟨gw, 1, none⟩) (fun _ => rfl) _
          have H5 : Hid (SetAt (Pw w.heap.size (some ⟨gw, 0, none⟩)) (w2.setCell ⟨gw, 1, none⟩ (.int .u64 N)) p s2) := Lib.hid (H2.out.fr F5 (fun q _ hq => .inr ⟨_, rfl, hq.symm⟩))
          have hb5 : Hid (Below w.heap.size w (w2.setCell ⟨gw, 1, none⟩ (.int .u64 N))) := Lib.hid (Fr.under hb.out hB2 F5 (fun q hq _ => by omega))
          have o5 : Hid ((w2.setCell ⟨gw, 1, none⟩ (.int .u64 N)).ownsRow w.heap.size 33 2 (.slice (some ⟨gw, 0, none⟩) L0 c) L0 (rgv s2.l)) := Lib.hid (by
            have := (O2.out.stored 1 (.int .u64 N)).1
            rw [hl, rgv_settop, ] at this
            rw [e2]
            rwa [hN] at *)
          replace r1 := Lib.hid r1
          have hl' := Lib.hid hl
          have hE' := Lib.hid hE
          clear hN hE F5 H2 O2 hb HN hL0 hF0 e2 hr hl hNI
          go_wp2_with fail
          clear hcl f1 bt bq hm1 hlm
        case' neg =>
          obtain ⟨r1, r2, r3⟩ := HI.out.apart (g := g) (.inr (by omega)) hmo1 (by omega) hg
          rw [hN, hs2.out] at r1 r2 r3
          obtain ⟨m1, hm1⟩ : ∃ m1, m + 1 = m1 := ⟨_, rfl⟩
          have hm1I : (m : Int) + 1 = (m1 : Int) := by omega
          have bq : ((m1 : Int) == (N : Int)) = false := by rw [beq_eq_false_iff_ne]; omega
          have hlit := Lib.hid (World.ownsRow_lit (e := 33) (size := 2) w2 #[.int .u64 N, .int .u64 N] 1 hB2 (by simp [maxLen]) rfl)
          have hsrc := Lib.hid ((Rd.of_ownS O2.out).alloc (.cells #[.int .u64 N, .int .u64 N] 33)).cells
          obtain ⟨L1, hL1e⟩ : ∃ L1, 1 + L0 = L1 := ⟨_, rfl⟩
          have hrow : Hid ([.int .u64 N, .int .u64 N] ++ rgv s.l = rgv (⟨N, N⟩ :: s.l)) := Lib.hid rfl
          have hlenw : Hid ((rgv s.l).length = L0 * 2) := Lib.hid (by rw [rgv_len, hL0])
          have hLb : 1 + L0 ≤ 13 := by omega
          replace r1 := Lib.hid r1
          replace r2 := Lib.hid r2
          replace r3 := Lib.hid r3
          have hl' := Lib.hid hl
          have hE' := Lib.hid hE
          replace hL0 := Lib.hid hL0
          replace hF0 := Lib.hid hF0
          have hL1e' := Lib.hid hL1e
          clear hN hE hl hr hm1 hNI
          have hstep : Hid (∀ (A3 : Option Addr) (c3 : Nat) (w3 : World), w3.ownsRow w.heap.size 33 2 (.slice A3 (1 + L0) c3) (1 + L0) ([.int .u64 N, .int .u64 N] ++ rgv s.l) → (w2.alloc (.cells #[.int .u64 N, .int .u64 N] 33)).grownBy w3 (Value.slice (some ⟨w2.heap.size, 0, none⟩) 1 1).ownBlock →
              ((Value.slice A3 (1 + L0) c3).ownBlock = (Value.slice (some ⟨w2.heap.size, 0, none⟩) 1 1).ownBlock ∨ (Value.slice A3 (1 + L0) c3).ownBlock = some (w2.alloc (.cells #[.int .u64 N, .int .u64 N] 33)).heap.size) →
              SetAt (Pw w.heap.size A3) w3 p s2 ∧ Below w.heap.size w w3 ∧ w3.ownsRow w.heap.size 33 2 (.slice A3 L1 c3) L1 (rgv (⟨N, N⟩ :: s.l)) ∧ (∃ g3, A3 = some ⟨g3, 0, none⟩) ∧ L1 ≤ c3) := Lib.hid (by
            intro A3 c3 w3 ho3 hg3 hat3
            have b3 : Below w2.heap.size w2 w3 := ((Fr.refl NoS w2).alloc _ |>.grown hg3 (fun q hq hlt => by injection hq with hq; simp only at hq; omega)).below
            obtain ⟨g3, rfl, h1, h2, h3, _⟩ : ∃ g3, A3 = some ⟨g3, 0, none⟩ ∧ w.heap.size ≤ g3 ∧ g3 < w3.heap.size ∧ 1 + L0 ≤ c3 ∧ c3 ≤ maxLen := by
              rcases ownS_cases ho3 with ⟨_, h1, _⟩ | h1
              · omega
              · exact h1
            have hg3b : w2.heap.size ≤ g3 := by
              rcases hat3 with e | e
              · injection e with e; simp only at e; omega
              · injection e with e; simp at e; omega
            refine ⟨H2.out.widen (fun q hq => ?_) b3 (fun q hq => ?_), hb.out.trans (b3.mono hB2), ?_, ⟨g3, rfl⟩, by omega⟩
            · rcases hq with h | ⟨a, ha, h⟩
              · exact .inl (.inl h)
              · injection ha with ha; subst ha; simp only at h; exact .inr (by omega)
            · rcases hq with h | ⟨a, ha, h⟩
              · have := b3.size; omega
              · injection ha with ha; subst ha; simp only at h; omega
            · rw [← hL1e]; exact ho3)
          clear H2 O2 hb
          by_cases htr : L0 < mo
          case' pos =>
            have e2 := r2.out (by rw [hL0.out]; exact htr)
            have hL2 : Hid (s2.l.length = L1) := Lib.hid (by rw [e2, ← hL1e, List.length_cons, hL0.out]; omega)
            have hF2 : Hid (s2.floor = F0) := Lib.hid (by rw [e2]; exact hF0.out)
            obtain ⟨F2, rfl⟩ : ∃ F2, F2 = F0 := ⟨_, rfl⟩
            have bt : decide (mo < L1) = false := decide_eq_false (by omega)
            have hrow2 : Hid (rgv (⟨N, N⟩ :: s.l) = rgv s2.l) := Lib.hid (by rw [e2])
            replace e2 := Lib.hid e2
            clear hL1e htr
            go_wp2_with (at_builtin; refine wpList_appS rfl _ _ 30 rfl w.heap.size 33 _ 2 16 infoR Try.underlying30 rfl (by decide) (.slice (some ⟨w2.heap.size, 0, none⟩) 1 1) 1 [.int .u64 N, .int .u64 N] rfl hlit.out ⟨gw, 0, none⟩ L0 c (rgv s.l) rfl hlenw.out hsrc.out (rgv_one _) (by simp only [maxLen]; omega) (by omega) (by simp; omega) ?_; intro A3 c3 w3 ho3 hg3 hat3; obtain ⟨H5, hb5, o5, ⟨g3, rfl⟩, hc3⟩ := hstep.out A3 c3 w3 ho3 hg3 hat3; rw [hrow2.out] at o5; rw [hL1e'.out]; replace H5 := Lib.hid H5; replace hb5 := Lib.hid hb5; replace o5 := Lib.hid o5; clear ho3 hg3 hat3 hstep)
            clear hcl bq hm1I hlm bt hlit hsrc
          case' neg =>
            have hLm : L0 = mo := by omega
            obtain ⟨r', hr', e2, hrn⟩ := r3.out (by rw [hL0.out]; exact hLm)
            obtain ⟨F2, hF2e⟩ : ∃ F2, r'.hi + 1 = F2 := ⟨_, rfl⟩
            rw [hF2e] at e2
            have hF2I : (r'.hi : Int) + 1 = (F2 : Int) := by omega
            have hF2 : Hid (s2.floor = F2) := Lib.hid (by rw [e2])
            have hL2 : Hid (s2.l.length = mo) := Lib.hid (by rw [e2, List.length_take, List.length_cons, hL0.out]; omega)
            have bt : decide (mo < L1) = true := decide_eq_true (by omega)
            have hmL : mo < L1 := by omega
            have hmLI : (mo : Int) < (L1 : Int) := by omega
            have hF2b : F2 ≤ 100 := by omega
            have hrb : r'.hi ≤ 100 := by omega
            have hstep2 : Hid (∀ (w3 : World) (g3 c3 : Nat), w3.ownsRow w.heap.size 33 2 (.slice (some ⟨g3, 0, none⟩) L1 c3) L1 (rgv (⟨N, N⟩ :: s.l)) → w3.cell? ⟨g3, mo * 2 + 1, none⟩ = some (.int .u64 r'.hi) ∧ w3.ownsRow w.heap.size 33 2 (.slice (some ⟨g3, 0, none⟩) mo c3) mo (rgv s2.l)) := Lib.hid (by
              intro w3 g3 c3 ho
              constructor
              · obtain ⟨b', off', e, -, y1⟩ := load_rg (l := ⟨N, N⟩ :: s.l) (Rd.of_ownS ho) (k := mo) (by rw [List.length_cons, hL0.out]; omega)
                injection e with e
                injection e with e1 e3
                subst e1 e3
                rw [(List.getElem?_eq_some_iff.1 hr').2, Nat.zero_add] at y1
                exact y1
              · have := own_cut ho (m := mo) (by omega)
                rw [← rgv_take] at this
                rw [e2]
                exact this)
            replace e2 := Lib.hid e2
            replace hr' := Lib.hid hr'
            replace hLm := Lib.hid hLm
            clear hL1e htr hF2e
            go_wp2_with (at_builtin; refine wpList_appS rfl _ _ 30 rfl w.heap.size 33 _ 2 16 infoR Try.underlying30 rfl (by decide) (.slice (some ⟨w2.heap.size, 0, none⟩) 1 1) 1 [.int .u64 N, .int .u64 N] rfl hlit.out ⟨gw, 0, none⟩ L0 c (rgv s.l) rfl hlenw.out hsrc.out (rgv_one _) (by simp only [maxLen]; omega) (by omega) (by simp; omega) ?_; intro A3 c3 w3 ho3 hg3 hat3; obtain ⟨H5, hb5, o5, ⟨g3, rfl⟩, hc3⟩ := hstep.out A3 c3 w3 ho3 hg3 hat3; obtain ⟨hcl3, o6⟩ := hstep2.out w3 g3 c3 o5; have HS := cutS_h (P := Try.prog) Try.underlying30 infoR (some ⟨g3, 0, none⟩) L1 c3 mo (mo : Int) rfl (by omega); rw [hL1e'.out]; replace H5 := Lib.hid H5; replace hb5 := Lib.hid hb5; replace o5 := Lib.hid o6; clear ho3 hg3 hat3 hstep hstep2 o6)
            clear hcl bq hm1I hlm bt hlit hsrc hLm hcl3 HS hF2I hmL hmLI
      all_goals
        obtain ⟨t1, t2⟩ := r1.out.large
        replace t1 := Lib.hid t1
        replace t2 := Lib.hid t2
        have hs13 : Hid (s2.l.length ≤ 1000000) := Lib.hid (by have := r1.out.ok.len; have := r1.out.most; omega)
        have hF2b' : F2 ≤ 300 := by have := r1.out.fl; have := hF2.out; omega
        have hN0 : Hid (s2.l ≠ []) := Lib.hid (fun e => absurd (r1.out.zero e) (by omega))
        have bNN : ((N : Int) != (N : Int)) = false := by simp
        refine (largest_at N true H5.out t1.out t2.out).mono ?_
        rintro e w6 ⟨rfl, S6⟩
        replace hb5 : Hid (Below w.heap.size w w6) := Lib.hid (hb5.out.trans (S6.below.mono hb5.out.size))
        replace o5 := Lib.hid (S6.own o5.out)
        replace H5 := Lib.hid (H5.out.still S6)
        clear S6 t1 t2
        go_wp2_with fail
        refine (list_at s2.l H5.out rfl).mono ?_
        rintro e w7 ⟨A7, c7, rfl, o7, H7, b7⟩
        replace o5 := Lib.hid (bel_own b7 o5.out)
        replace hb5 : Hid (Below w.heap.size w w7) := Lib.hid (hb5.out.trans (b7.mono hb5.out.size))
        have R7 := Lib.hid (Rd.of_ownS o7)
        have R5 := Lib.hid (Rd.of_ownS o5.out)
        replace H7 := Lib.hid H7
        clear H5 b7 o7
        go_wp2_with fail
        refine (samer_n true s2.l s2.l _ _ rfl hL2.out A7 _ c7 _ w7 R7.out R5.out hs13.out hs13.out (decide_eq_true rfl)).mono ?_
        rintro e w8 ⟨rfl, S8⟩
        replace hb5 : Hid (Below w.heap.size w w8) := Lib.hid (hb5.out.trans (S8.below.mono hb5.out.size))
        replace o5 := Lib.hid (S8.own o5.out)
        replace H7 := Lib.hid (H7.out.still S8)
        clear S8 R7 R5 hs13
        by_cases hz : 0 < F2
        · obtain ⟨f1, hf1⟩ : ∃ f1, F2 - 1 = f1 := ⟨_, rfl⟩
          have hf1I : (F2 : Int) - 1 = (f1 : Int) := by omega
          have q1 : Hid (s2.has f1 = true) := Lib.hid (rs_low f1 (by rw [hF2.out]; omega))
          have q0 : Hid (s2.has 0 = true) := Lib.hid (rs_low 0 (by rw [hF2.out]; omega))
          have hf1b : f1 ≤ 300 := by omega
          clear hf1
          go_wp2_with fail
          refine (has_at true H7.out f1 q1.out).mono ?_
          rintro e w9 ⟨rfl, H9, b9⟩
          replace hb5 : Hid (Below w.heap.size w w9) := Lib.hid (hb5.out.trans (b9.mono hb5.out.size))
          replace o5 := Lib.hid (bel_own b9 o5.out)
          replace H9 := Lib.hid H9
          clear H7 b9
          go_wp2_with fail
          refine (addno_at H9.out f1 (.inr ⟨by omega, q1.out⟩)).mono ?_
          rintro e w10 ⟨rfl, H10, b10⟩
          replace hb5 : Hid (Below w.heap.size w w10) := Lib.hid (hb5.out.trans (b10.mono hb5.out.size))
          replace o5 := Lib.hid (bel_own b10 o5.out)
          replace H10 := Lib.hid H10
          clear H9 b10
          go_wp2_with fail
          refine (addno_at H10.out 0 (.inr ⟨by omega, q0.out⟩)).mono ?_
          rintro e w11 ⟨rfl, H11, b11⟩
          replace hb5 : Hid (Below w.heap.size w w11) := Lib.hid (hb5.out.trans (b11.mono hb5.out.size))
          replace o5 := Lib.hid (bel_own b11 o5.out)
          replace H11 := Lib.hid H11
          clear H10 b11
          go_wp2_with fail
          go_roundw
          case rel => exact ⟨k + 1, N, s2, _, _, by omega, by go_num, rfl, by rw [hL2.out], by rw [hF2.out], r1, H11, by rw [hL2.out]; exact o5, hb5, Lib.hid (fun h => absurd h hN0.out)⟩
          case measure => simp [intOf]; omega
        · have z1 : decide (0 < F2) = false := decide_eq_false hz
          have z2 : decide ((0 : Int) < (F2 : Int)) = false := decide_eq_false (by omega)
          clear hz
          go_wp2_with fail
          go_roundw
          case rel => exact ⟨k + 1, N, s2, _, _, by omega, by go_num, rfl, by rw [hL2.out], by rw [hF2.out], r1, H7, by rw [hL2.out]; exact o5, hb5, Lib.hid (fun h => absurd h hN0.out)⟩
          case measure => simp [intOf]; omega
    · go_wp2_with fail
      refine (awake_any _).mono ?_
      rintro e wf ⟨rfl, hbf⟩
      go_wp2_with fail
      go_ret
      exact ⟨rfl, hb.out.trans (hbf.mono hb.out.size)⟩

set_option maxRecDepth 100000 in
set_option maxHeartbeats 2000000 in
theorem rising_any (most : Int) (gs : List Int) (A : Option Addr) (cap : Nat) (w : World) (hr : Rd w A (gs.map (Value.int .i64))) (hc : gs.length ≤ 9223372036854775807) :
    Calls Try.prog 6 #[.int .i64 most, .slice A gs.length cap] w fun e w' => e = .returned (.bool true) ∧ Below w.heap.size w w' := by
  obtain ⟨n, hn⟩ : ∃ n, gs.length = n := ⟨_, rfl⟩
  rw [hn] at hc ⊢
  by_cases h30 : n ≤ 30
  · exact rising_in most gs A cap n w hn hr h30
  · have b2 : decide ((30 : Int) < (n : Int)) = true := decide_eq_true (by omega)
    clear hn hr
    go_enter Try.func6, Try.ntmps6
    go_wp2_with fail
    refine (awake_any _).mono ?_
    rintro e wf ⟨rfl, hbf⟩
    go_wp2_with fail
    go_ret
    exact ⟨rfl, hbf⟩
end Go.Proofs.Ytdhdnpagdflgpaa
