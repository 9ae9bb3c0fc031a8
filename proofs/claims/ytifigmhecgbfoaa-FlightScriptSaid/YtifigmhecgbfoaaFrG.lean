/- FlightScript: the walk. -/
import Derived.Test.YtifigmhecgbfoaaFrF
namespace Go.Proofs.Ytifigmhecgbfoaa
open Go.RowKit

set_option maxRecDepth 100000 in
set_option maxHeartbeats 16000000 in
theorem fscript_go (A1 : Option Addr) (m c1 : Nat) (vd vt vp : Nat → Int) (vn : Nat → Nat) (vc : Nat → Bool) (vR : Nat → Option Addr) (vk : Nat → Nat) (vs : Nat → List Rg) (w : World) (hac : AcIn w A1 m vd vt vp vn vc vR vk vs) (hm : m ≤ 60) :
    Calls Try.prog 5 #[.slice A1 m c1] w fun e w' => e = .returned (.bool true) ∧ Below w.heap.size w w' := by
  replace hac := Lib.hid hac
  have CN := Lib.hid (new_any w)
  go_enter Try.func5, Try.ntmps5
  go_wp2_with fail
  refine CN.out.mono ?_
  rintro e w1 ⟨rfl, I1, b1⟩
  obtain ⟨p, hp⟩ : ∃ p, w.heap.size = p := ⟨_, rfl⟩
  rw [hp] at I1 ⊢
  obtain ⟨q, hq⟩ : ∃ q, w1.heap.size = q := ⟨_, rfl⟩
  obtain ⟨w2, hw2⟩ : ∃ w2, w1.alloc (.cells #[.slice none 0 0, .int .u64 0, .bool false] 46) = w2 := ⟨_, rfl⟩
  have hpq : Hid (p < q) := Lib.hid (by have := I1.lt; omega)
  have X2 : w2.heap[q]? = some (.cells #[.slice none 0 0, .int .u64 0, .bool false] 46 (0, 0)) := by rw [← hw2, ← hq]; exact heap_alloc_new w1 _
  have b2 : Below w1.heap.size w1 w2 := by rw [← hw2]; exact (Below.refl _ w1).alloc (Nat.le_refl _) _
  have I2 : IsRf w2 q none 0 [] 0 false := ⟨X2, World.ownsRow_nil _ _ _ _, by simp, by simp, by simp⟩
  have HS : Hid (Two OF OG (fun k => k < p) w2 p fnew q ⟨[], 0, false⟩ ∧ Below p w w2) := Lib.hid ⟨Two.new okF (I := OF) (w := w1) (T := OnFl q none) ⟨⟨_, ⟨none, 0, I1, rfl⟩, fun k hk hlt => by
      rcases hk with rfl | ⟨a, ha, _⟩
      · omega
      · cases ha⟩, fun k hk => by have := I1.lt; omega⟩ ⟨none, 0, I2, rfl⟩ b2 (fun k hk => by
      rcases hk with rfl | ⟨a, ha, _⟩
      · omega
      · cases ha), by
    rw [hp] at b1
    exact b1.trans (b2.mono (by have := I1.lt; omega))⟩
  have hps : Hid (p < w2.heap.size) := Lib.hid (by have := heap_lt X2; have := hpq.out; omega)
  replace hp := Lib.hid hp
  go_wp2_with fail
  try rw [hw2]
  try rw [hq]
  replace hq := Lib.hid hq
  clear CN I1 I2 b1 b2 X2 hw2
  go_loopw [5] (fun i wr => ∃ (k : Nat) (f : Fl) (r : RS), k ≤ m ∧ i = .int .i64 k ∧ Hid (Two OF OG (fun k => k < p) wr p f q r ∧ Below p w wr ∧ Sim f r ∧ r.P.length ≤ k) ∧ Hid (p < wr.heap.size)) (fun i _ => m - (intOf i).toNat)
  case atStart => exact ⟨0, _, _, by omega, rfl, Lib.hid ⟨HS.out.1, HS.out.2, sim_new, by simp⟩, hps⟩
  case round =>
    clear HS hps
    obtain ⟨k, f, r, hk, rfl, HS, hps⟩ := hrel
    by_cases hkm : k < m
    · obtain ⟨b, off, rfl⟩ : ∃ b off, A1 = some ⟨b, off, none⟩ := by
        rcases hac.out.pl with h0 | h0
        · omega
        · exact h0
      have hacr := hac.out.below (by rw [hp.out]; exact HS.out.2.1)
      obtain ⟨z0, z1, z2, z3, z4, z5⟩ := hacr.at_ b off rfl k hkm
      obtain ⟨rdk, lk⟩ := hacr.rd k hkm
      have rdk0 := (hac.out.rd k hkm).1
      obtain ⟨ra, rn⟩ := hac.out.ra k hkm
      obtain ⟨d, hd⟩ : ∃ x, vd k = x := ⟨_, rfl⟩
      obtain ⟨t, ht⟩ : ∃ x, vt k = x := ⟨_, rfl⟩
      obtain ⟨u, hu⟩ : ∃ x, vp k = x := ⟨_, rfl⟩
      obtain ⟨nu, hnu⟩ : ∃ x, vn k = x := ⟨_, rfl⟩
      obtain ⟨cn, hcn⟩ : ∃ x, vc k = x := ⟨_, rfl⟩
      obtain ⟨Rk, hRk⟩ : ∃ y, vR k = y := ⟨_, rfl⟩
      obtain ⟨ck, hck⟩ : ∃ y, vk k = y := ⟨_, rfl⟩
      obtain ⟨rs, hrs⟩ : ∃ y, vs k = y := ⟨_, rfl⟩
      obtain ⟨l, hl⟩ : ∃ l, rs.length = l := ⟨_, rfl⟩
      rw [hd] at z0
      rw [ht] at z1 ra
      rw [hu] at z2
      rw [hnu] at z3 rn
      rw [hcn] at z4
      rw [hRk, hrs, hck, hl] at z5
      rw [hRk, hrs] at rdk rdk0
      rw [hrs, hl] at lk
      clear hd ht hu hnu hcn hRk hck hrs hacr
      replace hl := Lib.hid hl
      have hlow : Hid (0 < l → ∀ a, Rk = some a → a.block < p) := Lib.hid (fun h0 a ha => by
        obtain ⟨a', ha', hlt⟩ := rdk0.lt (by rw [rgv_length, hl.out]; omega)
        rw [ha] at ha'
        injection ha' with ha'
        subst ha'
        rw [← hp.out]; exact hlt)
      replace rdk := Lib.hid rdk
      clear rdk0
      have L6 := load6 (P := Try.prog) z0 z1 z2 z3 z4 z5
      obtain ⟨wa, hwa⟩ : ∃ wa, wr.alloc (.cells #[.int .i64 d, .int .i64 t, .int .i64 u, .int .u64 nu, .bool cn, .slice Rk l ck] 48) = wa := ⟨_, rfl⟩
      obtain ⟨bx, hbx⟩ : ∃ bx, wr.heap.size = bx := ⟨_, rfl⟩
      have X0 : wa.heap[bx]? = some (.cells #[.int .i64 d, .int .i64 t, .int .i64 u, .int .u64 nu, .bool cn, .slice Rk l ck] 48 (0, 0)) := by rw [← hwa, ← hbx]; exact heap_alloc_new wr _
      have ba : Below wr.heap.size wr wa := by rw [← hwa]; exact (Below.refl _ wr).alloc (Nat.le_refl _) _
      have hbxp : p < bx := by rw [← hbx]; exact hps.out
      have MA : Hid (FMid p w wa p q bx #[.int .i64 d, .int .i64 t, .int .i64 u, .int .u64 nu, .bool cn, .slice Rk l ck] k f r) := Lib.hid
        ⟨HS.out.1.widen okF okG (fun j hj => by
          rcases hj with h | h
          · exact .inl h
          · exact .inr (by omega)) ba (fun j hj => by
          have := heap_lt X0
          rcases hj with h | h <;> omega), X0, HS.out.2.1.trans (ba.mono (by omega)), by omega, HS.out.2.2.1, HS.out.2.2.2⟩
      have RA := Lib.hid (rdk.out.below ba)
      obtain ⟨y0, y1, y2, y3, y4, y5⟩ := cell6 X0
      by_cases hlen : l ≤ 10
      · rename_i aa; clear aa
        go_upto_block 2 with fail
        try rw [hwa]
        try rw [hbx]
        clear L6 z0 z1 z2 z3 z4 z5 hwa hbx HS rdk ba X0
        go_cut [7, 8, 9, 10, 11, 12] from 46 to 110 (fun _ _ _ _ _ _ wx => Hid (∃ f' r', FMid p w wx p q bx #[.int .i64 d, .int .i64 t, .int .i64 u, .int .u64 nu, .bool cn, .slice Rk l ck] (k + 1) f' r'))
        case first =>
          have hlr : r.P.length ≤ k := MA.out.len
          have hlf : f.l.length ≤ k := Nat.le_trans (sim_len MA.out.sim) hlr
          have HD : Hid (Two OF OG (fun k => k < p ∨ k = bx) wa.drew p f q r) := Lib.hid (MA.out.two.still okF okG (Still.drew _))
          have HX : Hid (∀ W, Fr (NotP (fun k => k < p ∨ k = bx)) wa.drew W → W.heap[bx]? = some (.cells #[.int .i64 d, .int .i64 t, .int .i64 u, .int .u64 nu, .bool cn, .slice Rk l ck] 48 (0, 0))) := Lib.hid (fun W F => heap_fr (w := wa.drew) MA.out.x F (fun hn => hn (.inr rfl)))
          by_cases h0 : d = 0
          · have e0 : (d == 0) = true := beq_iff_eq.2 h0
            obtain ⟨b, hb⟩ : ∃ b, fsentok f nu t = b := ⟨_, rfl⟩
            have hb2 : Hid (rsentok r.P nu t = b) := Lib.hid (by rw [← sim_ok MA.out.sim, hb])
            have hbb : (b != b) = false := by simp
            have hs := Lib.hid (sim_sentx MA.out.sim nu t cn)
            have hl2 : Hid ((rsentx r nu t cn).P.length ≤ k + 1) := Lib.hid (by have := rsentx_len r nu t cn; omega)
            replace hb := Lib.hid hb
            replace h0 := Lib.hid h0
            go_wp2_with fail
            go_region_held3 (fun W => W.cell? ⟨bx, 0, none⟩ = some (.int .i64 d) ∧ W.cell? ⟨bx, 1, none⟩ = some (.int .i64 t) ∧ W.cell? ⟨bx, 2, none⟩ = some (.int .i64 u) ∧ W.cell? ⟨bx, 3, none⟩ = some (.int .u64 nu) ∧ W.cell? ⟨bx, 4, none⟩ = some (.bool cn) ∧ W.cell? ⟨bx, 5, none⟩ = some (.slice Rk l ck)) (first | assumption | exact cell6 (HX.out _ (by assumption)) | exact cell6 (HX.out _ (Fr.refl _ _))) (first
              | (go_at_call 17; refine (sent_t2 nu t cn b _ T3.out rn ra (by omega) hb2.out rfl).mono ?_; rintro e1 w4 ⟨rfl, T4, F4⟩; replace F4 := F3.trans F4; replace T4 := Lib.hid T4)
              | (go_at_call 10; refine (sent_t1 nu t cn b _ HD.out rn ra (by omega) hb.out rfl).mono ?_; rintro e1 w3 ⟨rfl, T3, F3⟩; replace T3 := Lib.hid T3))
            have HF := Lib.hid ((MA.out.still (Still.drew _)).on T4.out F4 hs.out hl2.out)
            clear T3 T4 F3 F4 HX HD hs hl2
            go_wp2_with fail
            go_meet
            exact Lib.hid ⟨_, _, HF.out⟩
          · have e0 : (d == 0) = false := beq_eq_false_iff_ne.2 h0
            replace h0 := Lib.hid h0
            by_cases h1 : d = 1
            · have e1 : (d == 1) = true := beq_iff_eq.2 h1
              replace h1 := Lib.hid h1
              obtain ⟨q1, q2⟩ := sim_camex MA.out.sim rs
              obtain ⟨q3, q4⟩ := rcamex_len r rs
              obtain ⟨ts, hts⟩ : ∃ ts, fcamen f rs = ts := ⟨_, rfl⟩
              rw [hts] at q2
              rw [← q2] at q4
              obtain ⟨n, hn⟩ : ∃ n, ts.length = n := ⟨_, rfl⟩
              rw [hn] at q4
              have hnk : n ≤ 100 := by omega
              have hl2 : Hid ((rcamex r rs).P.length ≤ k + 1) := Lib.hid (by omega)
              obtain ⟨b, hb⟩ : ∃ b, (!(rs.any (rbad f))) = b := ⟨_, rfl⟩
              have hb1 : Hid (rs.any (rbad f) = !b) := Lib.hid (by rw [← hb, Bool.not_not])
              have hb2 : Hid (rs.any (rbadP r.P) = !b) := Lib.hid (by rw [← sim_bad MA.out.sim, hb1.out])
              have hbb : (b != b) = false := by simp
              replace hts := Lib.hid hts
              replace hn := Lib.hid hn
              have q2' : Hid (rcamen r rs = ts) := Lib.hid q2.symm
              replace q1 := Lib.hid q1
              clear q2 q3 q4 hb HX HD
              go_wp2_with (at_builtin; refine Hid.out ?_)
              refine Lib.hid ?_
              refine wpList_appR rfl _ _ 36 rfl wa.heap.size 35 (.agg #[.int .u64 0, .int .u64 0]) 2 16 infoRg Try.underlying36 rfl (by decide) (.slice none 0 0) 0 [] rfl (World.ownsRow_nil _ _ _ _) Rk l ck (rgv rs) rfl (by rw [rgv_length, hl.out]) RA.out (rgv_one _) (by unfold maxLen; omega) (by omega) (Nat.le_refl _) ?_
              intro Ac cc v1 oc gc _
              simp only [Nat.zero_add, List.nil_append] at oc ⊢
              have bc : Below wa.heap.size wa v1 := (Below.refl _ _).grown gc (Nat.le_refl _) (fun k hk => by simp [Value.ownBlock] at hk)
              have X1 := heap_fr MA.out.x (Fr.of_below bc NoS) (fun x => x)
              have T1 : Hid (Two OF OG (fun k => (k < p ∨ k = bx) ∨ (Value.slice Ac l cc).ownBlock = some k) v1 p f q r) := Lib.hid (MA.out.two.widen okF okG (fun j hj => hj.elim .inl (fun h => .inr (oc.lt j h).1)) bc (fun j hj => by
                rcases hj with (h | h) | h
                · have := heap_lt X1; omega
                · have := heap_lt X1; omega
                · exact (oc.lt j h).2))
              have Rc := Lib.hid (Rd.of_ownS oc)
              have hAc : Hid (0 < l → ∀ a, Ac = some a → (a.block < p ∨ a.block = bx) ∨ (Value.slice Ac l cc).ownBlock = some a.block) := Lib.hid (fun _ a ha => .inr (by rw [ha]; rfl))
              have R1 := Lib.hid (RA.out.below bc)
              replace bc := Lib.hid bc
              replace X1 := Lib.hid X1
              clear oc gc
              go_wp2_with fail
              refine (came_t1 rs l Ac cc ts n b _ T1.out hl.out Rc.out hAc.out (by omega) hb1.out hts.out hn.out rfl).mono ?_
              rintro e v2 ⟨A3, c3, rfl, o3, T2, F2⟩
              have X2 := heap_fr X1.out F2 (fun hn => hn (.inl (.inr rfl)))
              have R2 := Lib.hid (R1.out.fr F2 (fun h0 a ha hn => hn (.inl (.inl (hlow.out (by rw [rgv_length, hl.out] at h0; omega) a ha)))))
              have F02 : Fr (NotP (fun k => k < p ∨ k = bx)) wa v2 := ((Fr.of_below bc.out NoS).mono (fun _ x => x.elim)).trans (notP_mono (fun _ h => .inl h) F2)
              have hsz : Hid (wa.heap.size ≤ v1.heap.size) := Lib.hid bc.out.size
              replace y5 := (cell6 X2).2.2.2.2.2
              replace o3 := Lib.hid o3
              replace T2 := Lib.hid T2
              replace F02 := Lib.hid F02
              clear T1 Rc hAc R1 bc X1 X2 F2 hts hb1
              go_wp2_with fail
              refine (came_t2 rs l Rk ck ts n b _ T2.out hl.out R2.out (fun h0 a ha => .inl (.inl (.inl (hlow.out h0 a ha)))) (by omega) hb2.out q2'.out hn.out rfl).mono ?_
              rintro e v3 ⟨A4, c4, rfl, o4, T3, F3⟩
              have O3 := own_fr o3.out F3 (fun j hj hn => hn (.inr hj))
              have F03 : Fr (NotP (fun k => k < p ∨ k = bx)) wa v3 := F02.out.trans (notP_mono (fun _ h => .inl (.inl h)) F3)
              have HE : Hid (∀ W W', Still v3 W → Fr (fun j => (Value.slice A3 n c3).ownBlock = some j) W W' → FMid p w W' p q bx #[.int .i64 d, .int .i64 t, .int .i64 u, .int .u64 nu, .bool cn, .slice Rk l ck] (k + 1) (fcamex f rs) (rcamex r rs)) := Lib.hid (fun W W' st f5 => MA.out.on (((T3.still okF okG st).fr okF okG f5 (fun j _ hj => .inr hj)).narrow (fun _ h => .inl (.inl h))) ((F03.trans (st.fr _)).trans (f5.mono (fun j hj _ hn => by
                have h1 := (o3.out.lt j hj).1
                have h2 := heap_lt MA.out.x
                have h3 := MA.out.lt
                have h4 := hsz.out
                rcases hn with h | h <;> omega))) q1.out hl2.out)
              have R3 := Lib.hid (Rd.of_own O3)
              have R4 := Lib.hid (Rd.of_own o4)
              have O3' := Lib.hid (own_base (base2 := 0) O3 (fun _ _ => Nat.zero_le _))
              clear T2 T3 F3 F03 F02 O3 o3 o4 q1 hl2 q2' hb2 R2 y5
              go_wp2_with fail
              refine (samen_eq ts n A3 A4 c3 c4 v3 hn.out R3.out R4.out (by omega)).mono ?_
              rintro e v4 ⟨rfl, st⟩
              go_wp2_with fail
              refine (overn_any ts A3 n c3 0 v4 hn.out (by omega) (st.own O3'.out)).mono ?_
              rintro e v5 ⟨rfl, f5⟩
              have HF := Lib.hid (HE.out _ _ st f5)
              clear HE st f5 R3 R4 O3'
              go_wp2_with fail
              go_meet
              exact Lib.hid ⟨_, _, HF.out⟩
            · have e1 : (d == 1) = false := beq_eq_false_iff_ne.2 h1
              replace h1 := Lib.hid h1
              by_cases h2 : d = 2
              · have e2 : (d == 2) = true := beq_iff_eq.2 h2
                replace h2 := Lib.hid h2
                obtain ⟨q1, q2⟩ := sim_lostx MA.out.sim t u
                obtain ⟨q3, q4⟩ := rlostx_len r t u
                obtain ⟨ts, hts⟩ : ∃ ts, flostn f t u = ts := ⟨_, rfl⟩
                rw [hts] at q2
                rw [← q2] at q4
                obtain ⟨n, hn⟩ : ∃ n, ts.length = n := ⟨_, rfl⟩
                rw [hn] at q4
                have hnk : n ≤ 100 := by omega
                have hl2 : Hid ((rlostx r t u).P.length ≤ k + 1) := Lib.hid (by omega)
                replace hts := Lib.hid hts
                replace hn := Lib.hid hn
                have q2' : Hid (rlostn r t u = ts) := Lib.hid q2.symm
                replace q1 := Lib.hid q1
                clear q2 q3 q4
                go_wp2_with fail
                go_region_held3 (fun W => W.cell? ⟨bx, 0, none⟩ = some (.int .i64 d) ∧ W.cell? ⟨bx, 1, none⟩ = some (.int .i64 t) ∧ W.cell? ⟨bx, 2, none⟩ = some (.int .i64 u) ∧ W.cell? ⟨bx, 3, none⟩ = some (.int .u64 nu) ∧ W.cell? ⟨bx, 4, none⟩ = some (.bool cn) ∧ W.cell? ⟨bx, 5, none⟩ = some (.slice Rk l ck)) (first | assumption | exact cell6 (HX.out _ (by assumption)) | exact cell6 (HX.out _ (Fr.refl _ _))) (first
                  | (go_at_call 20; refine (lost_t2 t u ts n _ T3.out ra q2'.out hn.out rfl).mono ?_; rintro e1 w4 ⟨A4, c4, rfl, o4, T4, F4⟩; have F4' := F3.trans (notP_mono (P := fun k => k < p ∨ k = bx) (fun _ h => .inl h) F4); replace T4 := Lib.hid T4; replace o4 := Lib.hid o4)
                  | (go_at_call 11; refine (lost_t1 t u ts n _ HD.out ra hts.out hn.out rfl).mono ?_; rintro e1 w3 ⟨A3, c3, rfl, o3, T3, F3⟩; replace T3 := Lib.hid T3; replace o3 := Lib.hid o3))
                have O3 := own_fr o3.out F4 (fun j hj hn => hn (.inr hj))
                have HF : Hid (FMid p w w4 p q bx #[.int .i64 d, .int .i64 t, .int .i64 u, .int .u64 nu, .bool cn, .slice Rk l ck] (k + 1) (flostx f t u) (rlostx r t u)) := Lib.hid ((MA.out.still (Still.drew _)).on (T4.out.narrow (fun _ h => .inl h)) F4' q1.out hl2.out)
                have R3 := Lib.hid (Rd.of_own O3)
                have R4 := Lib.hid (Rd.of_own o4.out)
                clear T3 T4 F3 F4 F4' HX HD q1 hl2 o3 o4 O3 hts q2'
                go_wp2_with fail
                refine (samen_eq ts n A3 A4 c3 c4 w4 hn.out R3.out R4.out (by omega)).mono ?_
                rintro e w5 ⟨rfl, st⟩
                replace HF := Lib.hid (HF.out.still st)
                clear st R3 R4
                go_wp2_with fail
                go_meet
                exact Lib.hid ⟨_, _, HF.out⟩
              · have e2 : (d == 2) = false := beq_eq_false_iff_ne.2 h2
                replace h2 := Lib.hid h2
                have HF : Hid (FMid p w wa p q bx #[.int .i64 d, .int .i64 t, .int .i64 u, .int .u64 nu, .bool cn, .slice Rk l ck] (k + 1) f r) := Lib.hid ⟨MA.out.two, MA.out.x, MA.out.bel, MA.out.lt, MA.out.sim, by have := MA.out.len; omega⟩
                clear HX HD
                go_wp2_with fail
                go_meet
                exact Lib.hid ⟨_, _, HF.out⟩
        case rest =>
          obtain ⟨f', r', HM0⟩ := hcut.out
          have HM := Lib.hid HM0
          clear MA HM0 hcut y0 y1 y2 y3 y4 y5
          obtain ⟨tp, htp⟩ : ∃ x, r'.top = x := ⟨_, rfl⟩
          obtain ⟨hd, hhd⟩ : ∃ x, r'.heard = x := ⟨_, rfl⟩
          obtain ⟨un, hun⟩ : ∃ x, (punder r'.P).length = x := ⟨_, rfl⟩
          obtain ⟨ag, hag⟩ : ∃ x, (page r'.P nu).getD 0 = x := ⟨_, rfl⟩
          obtain ⟨ab, hab⟩ : ∃ x, (page r'.P nu).isSome = x := ⟨_, rfl⟩
          have e1 : ((un : Int) != un) = false := by simp
          have e2 : ((tp : Int) != tp) = false := by simp
          have e3 : (hd != hd) = false := by simp
          have e4 : ((ag : Int) != ag) = false := by simp
          have e5 : (ab != ab) = false := by simp
          replace htp := Lib.hid htp
          replace hhd := Lib.hid hhd
          replace hun := Lib.hid hun
          replace hag := Lib.hid hag
          replace hab := Lib.hid hab
          go_wp2_with fail
          refine (largest_t1 tp hd HM.out.two (by rw [HM.out.sim.lg, htp.out]) (by rw [HM.out.sim.came, hhd.out])).mono ?_
          rintro e v1 ⟨rfl, st⟩
          replace HM := Lib.hid (HM.out.still st)
          have y3 := (cell6 HM.out.x).2.2.2.1
          clear st
          go_wp2_with fail
          refine (age_t1 nu ag ab HM.out.two (by rw [sim_age HM.out.sim, hag.out]) (by rw [sim_age HM.out.sim, hab.out])).mono ?_
          rintro e v2 ⟨rfl, bl⟩
          replace HM := Lib.hid (HM.out.below bl)
          replace y3 := (cell6 HM.out.x).2.2.2.1
          clear bl
          go_wp2_with fail
          refine (age_t2 nu ag ab HM.out.two hag.out hab.out).mono ?_
          rintro e v3 ⟨rfl, st⟩
          replace HM := Lib.hid (HM.out.still st)
          clear st y3
          go_wp2_with fail
          refine (under_t1 un HM.out.two (by rw [HM.out.sim.l, hun.out])).mono ?_
          rintro e v4 ⟨rfl, st⟩
          replace HM := Lib.hid (HM.out.still st)
          clear st
          go_wp2_with fail
          refine (under_t2 un HM.out.two hun.out).mono ?_
          rintro e v5 ⟨rfl, st⟩
          replace HM := Lib.hid (HM.out.still st)
          clear st
          obtain ⟨t1, t2⟩ := cells_t2 HM.out.two
          rw [htp.out] at t1
          rw [hhd.out] at t2
          have hps3 : Hid (p < v5.heap.size) := Lib.hid (by have := heap_lt HM.out.x; have := HM.out.lt; omega)
          go_wp2_with fail
          go_roundw
          case rel => exact ⟨k + 1, f', r', by omega, by go_num, Lib.hid ⟨HM.out.two.narrow (fun _ h => .inl h), HM.out.bel, HM.out.sim, HM.out.len⟩, hps3⟩
          case measure => simp [intOf]; omega
      · go_wp2_with fail
        try rw [hwa]
        try rw [hbx]
        have hb := Lib.hid MA.out.bel
        have hsa : p ≤ wa.heap.size := MA.out.blt
        clear L6 z0 z1 z2 z3 z4 z5 hwa HS MA ba X0 RA
        refine (awake_any wa).mono ?_
        rintro e w5 ⟨rfl, b5⟩
        go_wp2_with fail
        go_ret
        exact ⟨rfl, by rw [hp.out]; exact hb.out.trans (b5.mono hsa)⟩
    · have hb := Lib.hid HS.out.2.1
      clear HS
      go_wp2_with fail
      refine (zsent 1 1 true wr).mono ?_
      rintro e w5 ⟨rfl, rfl⟩
      go_wp2_with fail
      refine (zunder wr).mono ?_
      rintro e w5 ⟨rfl, rfl⟩
      go_wp2_with fail
      refine (awake_any wr).mono ?_
      rintro e w5 ⟨rfl, b5⟩
      go_wp2_with fail
      go_ret
      exact ⟨rfl, by rw [hp.out]; exact hb.out.trans (b5.mono (by have := hps.out; omega))⟩
end Go.Proofs.Ytifigmhecgbfoaa
