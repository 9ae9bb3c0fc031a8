/- IncomeScript: the walk, where there is an In. -/
import Derived.Test.YtlaomllgjiochaaIrF
namespace Go.Proofs.Ytlaomllgjiochaa
open Go.RowKit

/-- What P guards in a round: what was there at first, the act's own block, the copy's. -/
def PG (B bx : Nat) (v : Value) (k : Nat) : Prop := k < B ∨ k = bx ∨ v.ownBlock = some k
theorem irdb_len (s : Inc) (x : Int) (h : s.Ok) : ireadn s x ≤ 1048576 ∧ (ibytes s (ireadn s x)).length = ireadn s x := by
  have h1 := ireadn_le s x
  have h2 := irdb_le s h
  have h3 := h.len
  have h4 := h.most1
  refine ⟨by omega, ?_⟩
  simp [ibytes]; omega
theorem Two.okI {P : Nat → Prop} {w : World} {p q : Nat} {s t : Inc} (h : Two OI OR P w p s q t) : s.Ok := by
  obtain ⟨⟨S, ⟨vD, vC, hI, _⟩, _⟩, _⟩ := h.fst
  exact hI.ok
theorem cell4 {w : World} {b : Nat} {T : TypeId} {v0 v1 v2 v3 : Value} (h : w.heap[b]? = some (.cells #[v0, v1, v2, v3] T (0, 0))) :
    w.cell? ⟨b, 0, none⟩ = some v0 ∧ w.cell? ⟨b, 1, none⟩ = some v1 ∧ w.cell? ⟨b, 2, none⟩ = some v2 ∧ w.cell? ⟨b, 3, none⟩ = some v3 :=
  ⟨wrote_cell h 0 _ rfl, wrote_cell h 1 _ rfl, wrote_cell h 2 _ rfl, wrote_cell h 3 _ rfl⟩

/-- Both, the act's own block, and what was there at first. -/
structure IMid (B : Nat) (w0 W : World) (p q bx : Nat) (P : Nat → Prop) (cs : Array Value) (s t : Inc) : Prop where
  two : Two OI OR P W p s q t
  x : W.heap[bx]? = some (.cells cs 36 (0, 0))
  bel : Below B w0 W
  lt : B ≤ W.heap.size
theorem IMid.still {B : Nat} {w0 W W' : World} {p q bx : Nat} {P : Nat → Prop} {cs : Array Value} {s t : Inc} (h : IMid B w0 W p q bx P cs s t) (st : Still W W') : IMid B w0 W' p q bx P cs s t :=
  ⟨h.two.still Proofs.Ytlaomllgjiochaa.okI okR st, by rw [st.heap]; exact h.x, h.bel.trans (st.below.mono h.lt), by rw [st.size]; exact h.lt⟩

/-- Both, and the bytes that were read. -/
structure IEnd (B : Nat) (w0 W : World) (p q : Nat) (P : Nat → Prop) (v : Value) (n : Nat) (l : List UInt8) (s t : Inc) : Prop where
  two : Two OI OR P W p s q t
  bel : Below B w0 W
  lt : B ≤ W.heap.size
  own : W.ownsRow 0 5 1 v n (bv l)
theorem IEnd.still {B : Nat} {w0 W W' : World} {p q n : Nat} {v : Value} {l : List UInt8} {P : Nat → Prop} {s t : Inc} (h : IEnd B w0 W p q P v n l s t) (st : Still W W') : IEnd B w0 W' p q P v n l s t :=
  ⟨h.two.still Proofs.Ytlaomllgjiochaa.okI okR st, h.bel.trans (st.below.mono h.lt), by rw [st.size]; exact h.lt, st.own h.own⟩

set_option maxRecDepth 100000 in
set_option maxHeartbeats 16000000 in
theorem iscript_go (most : Int) (A1 : Option Addr) (m c1 : Nat) (vo vr : Nat → Int) (vA : Nat → Option Addr) (vc : Nat → Nat) (vb : Nat → List UInt8) (ve : Nat → Bool) (w : World) (hac : AcIn w A1 m vo vr vA vc vb ve) (hm : m ≤ 40) (h0 : 0 ≤ most) (h1 : most ≤ 2000) :
    Calls Try.prog 4 #[.int .i64 most, .slice A1 m c1] w fun e w' => e = .returned (.bool true) ∧ Below w.heap.size w w' := by
  have CN := Lib.hid (inew_any most w h0 (by omega))
  replace hac := Lib.hid hac
  go_enter Try.func4, Try.ntmps4
  go_wp2_with fail
  refine CN.out.mono ?_
  rintro e w1 ⟨rfl, I1, b1⟩
  have CR := Lib.hid (rinew_any most w1 h0 (by omega))
  replace I1 := Lib.hid I1
  replace b1 := Lib.hid b1
  clear CN
  obtain ⟨p, hp⟩ : ∃ p, w.heap.size = p := ⟨_, rfl⟩
  rw [hp] at I1 ⊢
  go_wp2_with fail
  refine CR.out.mono ?_
  rintro e w2 ⟨rfl, I2, b2⟩
  obtain ⟨q, hq⟩ : ∃ q, w1.heap.size = q := ⟨_, rfl⟩
  rw [hq] at I2 ⊢
  have hpq : Hid (p < q) := Lib.hid (by have := heap_lt I1.out.cell; omega)
  have HS : Hid (Two OI OR (fun k => k < p) w2 p (inew most) q (inew most) ∧ Below p w w2) := Lib.hid ⟨Two.new okI (w := w1) (T := IncS q (.slice none 0 0) (.slice none 0 0)) ⟨⟨_, ⟨_, _, I1.out, rfl⟩, fun k hk hlt => by have := (I1.out.ge hk).1; omega⟩, fun k hk => by have := heap_lt I1.out.cell; omega⟩ ⟨_, _, I2, Inc.Tie.new most, rfl⟩ b2 (fun k hk => by
      rcases hk with h | h | h
      · omega
      · simp [Value.ownBlock] at h
      · simp [Value.ownBlock] at h), by
    have h3 := b1.out
    rw [hp] at h3
    exact h3.trans (b2.mono (by have := hpq.out; omega))⟩
  have hps : Hid (p < w2.heap.size) := Lib.hid (by have := heap_lt I2.cell; have := hpq.out; omega)
  replace hp := Lib.hid hp
  replace hq := Lib.hid hq
  clear CR I1 I2 b1 b2
  go_wp2_with fail
  go_loopw [7] (fun i wr => ∃ (k : Nat) (s : Inc), k ≤ m ∧ i = .int .i64 k ∧ Hid (Two OI OR (fun k => k < p) wr p s q s ∧ Below p w wr) ∧ Hid (p < wr.heap.size)) (fun i _ => m - (intOf i).toNat)
  case atStart => exact ⟨0, _, by omega, rfl, HS, hps⟩
  case round =>
    clear HS hps
    obtain ⟨k, s, hk, rfl, HS, hps⟩ := hrel
    by_cases hkm : k < m
    · obtain ⟨b, off, rfl⟩ : ∃ b off, A1 = some ⟨b, off, none⟩ := by
        rcases hac.out.pl with h0 | h0
        · omega
        · exact h0
      have hacr := hac.out.below (by rw [hp.out]; exact HS.out.2)
      obtain ⟨z0, z1, z2, z3⟩ := hacr.at_ b off rfl k hkm
      obtain ⟨rdk, lk⟩ := hacr.rd k hkm
      have rdk0 := (hac.out.rd k hkm).1
      have ra := hac.out.ra k hkm
      obtain ⟨x, hx⟩ : ∃ x, vo k = x := ⟨_, rfl⟩
      obtain ⟨y, hy⟩ : ∃ y, vr k = y := ⟨_, rfl⟩
      obtain ⟨Ak, hA⟩ : ∃ y, vA k = y := ⟨_, rfl⟩
      obtain ⟨ck, hc⟩ : ∃ y, vc k = y := ⟨_, rfl⟩
      obtain ⟨D, hD⟩ : ∃ y, vb k = y := ⟨_, rfl⟩
      obtain ⟨en, he⟩ : ∃ en, ve k = en := ⟨_, rfl⟩
      obtain ⟨l, hl⟩ : ∃ l, D.length = l := ⟨_, rfl⟩
      rw [hx] at z0 ra
      rw [hy] at z1
      rw [hA, hD, hc, hl] at z2
      rw [hA, hD] at rdk rdk0
      rw [hD, hl] at lk
      rw [he] at z3
      clear hx hy hA hc hD he hacr
      replace hl := Lib.hid hl
      have hlow : Hid (0 < l → ∀ a, Ak = some a → a.block < p) := Lib.hid (fun h0 a ha => by
        obtain ⟨a', ha', hlt⟩ := rdk0.lt (by rw [bv_length, hl.out]; exact h0)
        rw [ha] at ha'
        injection ha' with ha'
        subst ha'
        rw [← hp.out]; exact hlt)
      replace rdk := Lib.hid rdk
      clear rdk0
      have L4 := load4 (P := Try.prog) z0 z1 z2 z3
      by_cases hlen : l ≤ 40
      · rename_i aa; clear aa
        go_wp2_with fail
        obtain ⟨wa, hwa⟩ : ∃ wa, wr.alloc (.cells #[.int .i64 x, .int .i64 y, .slice Ak l ck, .bool en] 36) = wa := ⟨_, rfl⟩
        obtain ⟨bx, hbx⟩ : ∃ bx, wr.heap.size = bx := ⟨_, rfl⟩
        have X0 : wa.heap[bx]? = some (.cells #[.int .i64 x, .int .i64 y, .slice Ak l ck, .bool en] 36 (0, 0)) := by rw [← hwa, ← hbx]; exact heap_alloc_new wr _
        have ba : Below wr.heap.size wr wa := by rw [← hwa]; exact (Below.refl _ wr).alloc (Nat.le_refl _) _
        have hbxp : Hid (p < bx) := Lib.hid (by rw [← hbx]; exact hps.out)
        have SA := HS.out.1
        have BA : Hid (Below p w wa) := Lib.hid (HS.out.2.trans (ba.mono (by have := hps.out; omega)))
        have RA := rdk.out.below ba
        have hsz : wa.heap.size = bx + 1 := by rw [← hwa, ← hbx]; simp
        rw [hwa, hbx]
        rw [hbx] at ba
        have hbx2 : Hid (wr.heap.size = bx) := Lib.hid hbx
        clear L4 z0 z1 z2 z3 hwa hbx HS rdk
        replace SA := Lib.hid SA
        replace RA := Lib.hid RA
        replace X0 := Lib.hid X0
        replace ba := Lib.hid ba
        replace hsz := Lib.hid hsz
        refine (copied_to D l Ak ck wa hl.out RA.out (by omega)).mono ?_
        rintro e wb ⟨Ai, ci, rfl, oi, bi⟩
        have X1 := heap_fr X0.out (Fr.of_below bi NoS) (fun x => x)
        have hib : Hid (∀ j, (Value.slice Ai l ci).ownBlock = some j → bx < j ∧ j < wb.heap.size) := Lib.hid (fun j hj => by have := oi.lt j hj; have := hsz.out; omega)
        have HP : Hid (∀ j, PG p bx (.slice Ai l ci) j → j < wb.heap.size) := Lib.hid (fun j hj => by
          have := bi.size
          have := hbxp.out
          have := hsz.out
          rcases hj with h | h | h
          · omega
          · omega
          · exact (hib.out j h).2)
        have hbw := bi.size
        have BW : Hid (Below p w wb) := Lib.hid (BA.out.trans (bi.mono (by have := hsz.out; have := hbxp.out; omega)))
        have HD : Hid (Two OI OR (PG p bx (.slice Ai l ci)) wb.drew p s q s) := Lib.hid ((SA.out.widen okI okR (Q := PG p bx (.slice Ai l ci)) (fun j hj => by
          have := hbx2.out
          rcases hj with h | h | h
          · exact .inl h
          · exact .inr (by omega)
          · exact .inr (by have := hib.out j h; omega)) ((ba.out.mono (by rw [hbx2.out]; omega)).trans (bi.mono (by have := hsz.out; have := hbx2.out; omega))) HP.out).still okI okR (Still.drew _))
        have RI : Hid (Rd wb.drew Ai (bv D)) := Lib.hid ((Rd.of_own oi).drew)
        have RD : Hid (∀ W, Fr (NotP (PG p bx (.slice Ai l ci))) wb.drew W → Rd W Ak (bv D)) := Lib.hid (fun W f => (RA.out.below bi).drew.fr f (fun h0 a ha hn => hn (.inl (hlow.out (by rw [bv_length, hl.out] at h0; exact h0) a ha))))
        have OWN : Hid (∀ W, Fr (NotP (PG p bx (.slice Ai l ci))) wb.drew W → W.ownsRow wa.heap.size 5 1 (.slice Ai l ci) l (bv D)) := Lib.hid (fun W f => own_fr (w := wb.drew) oi f (fun j hj hn => hn (.inr (.inr hj))))
        have HX : Hid (∀ W, Fr (NotP (PG p bx (.slice Ai l ci))) wb.drew W → W.heap[bx]? = some (.cells #[.int .i64 x, .int .i64 y, .slice Ak l ck, .bool en] 36 (0, 0))) := Lib.hid (fun W f => heap_fr (w := wb.drew) X1 f (fun hn => hn (.inr (.inl rfl))))
        have hAi : Hid (0 < l → ∀ a, Ai = some a → PG p bx (.slice Ai l ci) a.block) := Lib.hid (fun _ a ha => .inr (.inr (by
          rcases own_cases oi with ⟨h, _⟩ | ⟨g, h, _⟩
          · rw [ha] at h; cases h
          · rw [h] at ha; injection ha with ha; subst ha; rw [h]; rfl)))
        obtain ⟨v, hv⟩ : ∃ v, iputr s x D en = v := ⟨_, rfl⟩
        obtain ⟨s2, hs2⟩ : ∃ s2, iputs s x D en = s2 := ⟨_, rfl⟩
        have hvv : (v != v) = false := by simp
        replace hv := Lib.hid hv
        replace hs2 := Lib.hid hs2
        obtain ⟨y0, y1, y2, y3⟩ := cell4 X1
        clear SA RA BA oi bi ba X0 X1
        go_wp2_with fail
        go_region_held3 (fun W => W.cell? ⟨bx, 0, none⟩ = some (.int .i64 x) ∧ W.cell? ⟨bx, 1, none⟩ = some (.int .i64 y) ∧ W.cell? ⟨bx, 2, none⟩ = some (.slice Ak l ck) ∧ W.cell? ⟨bx, 3, none⟩ = some (.bool en)) (first | assumption | exact cell4 (HX.out _ (by assumption)) | exact cell4 (HX.out _ (Fr.refl _ _))) (first
          | (go_at_call 17; refine (put_t2 l v s2 ck x Ak D en T3.out hl.out hv.out hs2.out (RD.out _ F3) (fun h0 a ha => .inl (hlow.out h0 a ha)) (by omega) ra).mono ?_; rintro e1 w4 ⟨rfl, T4, F4⟩; replace F4 := F3.trans F4; replace T4 := Lib.hid T4)
          | (go_at_call 10; refine (put_t1 l v s2 ci x Ai D en HD.out hl.out hv.out hs2.out RI.out hAi.out (by omega) ra).mono ?_; rintro e1 w3 ⟨rfl, T3, F3⟩; replace T3 := Lib.hid T3))
        have B4 : Hid (Below p w w4) := Lib.hid (fp_below (BW.out.trans ((Still.drew wb).below.mono (by have := BW.out.size; have := hbxp.out; have := HP.out bx (.inr (.inl rfl)); omega))) (by have := hbxp.out; have := HP.out bx (.inr (.inl rfl)); show p ≤ wb.heap.size; omega) (fun _ h => .inl h) F4)
        have X4 := HX.out _ F4
        have O4 := OWN.out _ F4
        have hp4 : p ≤ w4.heap.size := by have := heap_lt X4; have := hbxp.out; omega
        have HM : Hid (∀ W, Fr (fun j => (Value.slice Ai l ci).ownBlock = some j) w4 W → IMid p w W p q bx (PG p bx (.slice Ai l ci)) #[.int .i64 x, .int .i64 y, .slice Ak l ck, .bool en] s2 s2) := Lib.hid (fun W f =>
          ⟨T4.out.fr Proofs.Ytlaomllgjiochaa.okI okR f (fun j _ hj => .inr (.inr hj)), heap_fr X4 f (fun hj => by have := hib.out _ hj; omega), Fr.under B4.out hp4 f (fun j hj _ => by have := hib.out j hj; have := hbxp.out; omega), Nat.le_trans hp4 f.size⟩)
        have CO := Lib.hid (over_any D Ai l ci wa.heap.size w4 hl.out (by omega) O4)
        replace hp4 := Lib.hid hp4
        clear T3 F3 T4 F4 X4 O4 B4 HX OWN RD RI HD hAi BW HP y0 y1 y2 y3 hv hs2
        clear hlow hbx2 hsz
        go_wp2_with fail
        refine CO.out.mono ?_
        rintro e w5 ⟨rfl, f5⟩
        replace HM := Lib.hid (HM.out _ f5)
        clear CO f5
        obtain ⟨n1, hn1⟩ : ∃ n, irdb s2 = n := ⟨_, rfl⟩
        obtain ⟨n2, hn2⟩ : ∃ n, s2.hi = n := ⟨_, rfl⟩
        obtain ⟨n3, hn3⟩ : ∃ n, iwhole s2 = n := ⟨_, rfl⟩
        obtain ⟨n4, hn4⟩ : ∃ n, iended s2 = n := ⟨_, rfl⟩
        have e1 : ((n1 : Int) != n1) = false := by simp
        have e2 : (n2 != n2) = false := by simp
        have e3 : (n3 != n3) = false := by simp
        have e4 : (n4 != n4) = false := by simp
        replace hn1 := Lib.hid hn1
        replace hn2 := Lib.hid hn2
        replace hn3 := Lib.hid hn3
        replace hn4 := Lib.hid hn4
        go_wp2_with fail
        refine (rdb_t1 n1 HM.out.two hn1.out).mono ?_
        rintro e w6 ⟨rfl, st⟩
        replace HM := Lib.hid (HM.out.still st)
        clear st
        go_wp2_with fail
        refine (rdb_t2 n1 HM.out.two hn1.out).mono ?_
        rintro e w7 ⟨rfl, st⟩
        replace HM := Lib.hid (HM.out.still st)
        clear st
        go_wp2_with fail
        refine (hi_t1 n2 HM.out.two hn2.out).mono ?_
        rintro e w8 ⟨rfl, st⟩
        replace HM := Lib.hid (HM.out.still st)
        clear st
        go_wp2_with fail
        refine (hi_t2 n2 HM.out.two hn2.out).mono ?_
        rintro e w9 ⟨rfl, st⟩
        replace HM := Lib.hid (HM.out.still st)
        clear st
        go_wp2_with fail
        refine (wh_t1 n3 HM.out.two hn3.out).mono ?_
        rintro e w10 ⟨rfl, st⟩
        replace HM := Lib.hid (HM.out.still st)
        clear st
        go_wp2_with fail
        refine (wh_t2 n3 HM.out.two hn3.out).mono ?_
        rintro e w11 ⟨rfl, st⟩
        replace HM := Lib.hid (HM.out.still st)
        clear st
        go_wp2_with fail
        refine (en_t1 n4 HM.out.two hn4.out).mono ?_
        rintro e w12 ⟨rfl, st⟩
        replace HM := Lib.hid (HM.out.still st)
        clear st
        go_wp2_with fail
        refine (en_t2 n4 HM.out.two hn4.out).mono ?_
        rintro e w13 ⟨rfl, st⟩
        replace HM := Lib.hid (HM.out.still st)
        clear st e1 e2 e3 e4 hn1 hn2 hn3 hn4
        have y1 := (cell4 HM.out.x).2.1
        have HX : Hid (∀ W, Fr (NotP (PG p bx (.slice Ai l ci))) w13.drew W → W.heap[bx]? = some (.cells #[.int .i64 x, .int .i64 y, .slice Ak l ck, .bool en] 36 (0, 0))) := Lib.hid (fun W f => heap_fr (w := w13.drew) HM.out.x f (fun hn => hn (.inr (.inl rfl))))
        have hlr := irdb_len s2 y HM.out.two.okI
        obtain ⟨nr, hnr⟩ : ∃ n, ireadn s2 y = n := ⟨_, rfl⟩
        rw [hnr] at hlr
        obtain ⟨lb, hlb⟩ : ∃ n, ibytes s2 nr = n := ⟨_, rfl⟩
        obtain ⟨s3, hs3⟩ : ∃ n, iread s2 y = n := ⟨_, rfl⟩
        rw [hlb] at hlr
        obtain ⟨hnr2, hlbl⟩ := hlr
        replace HM := Lib.hid (HM.out.still (Still.drew _))
        replace hnr := Lib.hid hnr
        replace hlb := Lib.hid hlb
        replace hs3 := Lib.hid hs3
        replace hlbl := Lib.hid hlbl
        go_wp2_with fail
        go_region_held3 (fun W => W.cell? ⟨bx, 1, none⟩ = some (.int .i64 y)) (first | assumption | exact (cell4 (HX.out _ (by assumption))).2.1) (first
          | (go_at_call 26; refine (read_t2 y nr lb s3 T14.out hnr.out hlb.out hs3.out).mono ?_; rintro e1 w15 ⟨A2, c2, rfl, o2, T15, F15⟩; have F15' := F14.trans (notP_mono (P := PG p bx (.slice Ai l ci)) (fun _ h => .inl h) F15); replace T15 := Lib.hid T15; replace o2 := Lib.hid o2)
          | (go_at_call 12; refine (read_t1 y nr lb s3 HM.out.two hnr.out hlb.out hs3.out).mono ?_; rintro e1 w14 ⟨A3, c3, rfl, o3, T14, F14⟩; replace T14 := Lib.hid T14; replace o3 := Lib.hid o3))
        have hl3 : Hid (∀ j, (Value.slice A3 nr c3).ownBlock = some j → p < j) := Lib.hid (fun j hj => by have := (o3.out.lt j hj).1; have := heap_lt HM.out.x; have := hbxp.out; omega)
        have HE : Hid (IEnd p w w15 p q (fun k => PG p bx (.slice Ai l ci) k ∨ (Value.slice A3 nr c3).ownBlock = some k) (.slice A3 nr c3) nr lb s3 s3) := Lib.hid
          ⟨T15.out, fp_below HM.out.bel HM.out.lt (fun _ h => .inl h) F15', Nat.le_trans HM.out.lt F15'.size, own_base (base2 := 0) (own_fr o3.out F15 (fun j hj hn => hn (.inr hj))) (fun _ _ => Nat.zero_le _)⟩
        have R2 := Lib.hid (Rd.of_own o2.out)
        clear T14 T15 F14 F15 F15' HM HX hnr hlb hs3 o2 o3 y1
        go_wp2_with fail
        refine (same_eq2 lb nr A3 A2 c3 c2 w15 hlbl.out (Rd.of_own HE.out.own) R2.out (by omega)).mono ?_
        rintro e w16 ⟨rfl, st⟩
        replace HE := Lib.hid (HE.out.still st)
        clear st R2
        obtain ⟨n4, hn4⟩ : ∃ n, iended s3 = n := ⟨_, rfl⟩
        have e4 : (n4 != n4) = false := by simp
        replace hn4 := Lib.hid hn4
        go_wp2_with fail
        refine (en_t1 n4 HE.out.two hn4.out).mono ?_
        rintro e w17 ⟨rfl, st⟩
        replace HE := Lib.hid (HE.out.still st)
        clear st
        go_wp2_with fail
        refine (en_t2 n4 HE.out.two hn4.out).mono ?_
        rintro e w18 ⟨rfl, st⟩
        replace HE := Lib.hid (HE.out.still st)
        clear st
        go_wp2_with fail
        refine (over_any lb A3 nr c3 0 w18 hlbl.out (by omega) HE.out.own).mono ?_
        rintro e w19 ⟨rfl, f19⟩
        have HS : Hid (Two OI OR (fun k => k < p) w19 p s3 q s3 ∧ Below p w w19) := Lib.hid ⟨(HE.out.two.fr Proofs.Ytlaomllgjiochaa.okI okR f19 (fun j _ hj => .inr hj)).narrow (fun k hk => .inl (.inl hk)), Fr.under HE.out.bel HE.out.lt f19 (fun j hj _ => by have := hl3.out j hj; omega)⟩
        have hps : Hid (p < w19.heap.size) := Lib.hid (by
          obtain ⟨⟨S, ⟨vD, vC, hI, _⟩, _⟩, _⟩ := HS.out.1.fst
          exact heap_lt hI.cell)
        clear f19 HE e4 hn4
        go_wp2_with fail
        go_roundw
        case rel => exact ⟨k + 1, s3, by omega, by go_num, HS, hps⟩
        case measure => simp [intOf]; omega
      · have hb := Lib.hid HS.out.2
        clear HS
        go_wp2_with fail
        obtain ⟨wa, hwa⟩ : ∃ wa, wr.alloc (.cells #[.int .i64 x, .int .i64 y, .slice Ak l ck, .bool en] 36) = wa := ⟨_, rfl⟩
        have ba : Below p w wa := by rw [← hwa]; exact hb.out.trans ((Below.refl _ wr).alloc (by have := hps.out; omega) _)
        have hsa : p ≤ wa.heap.size := by rw [← hwa]; have := hps.out; simp; omega
        rw [hwa]
        clear hwa L4 z0 z1 z2 z3
        refine (awake_any wa).mono ?_
        rintro e w5 ⟨rfl, b5⟩
        go_wp2_with fail
        go_ret
        exact ⟨rfl, by rw [hp.out]; exact ba.trans (b5.mono hsa)⟩
    · have hb := Lib.hid HS.out.2
      clear HS
      go_wp2_with fail
      refine (awake_any wr).mono ?_
      rintro e w5 ⟨rfl, b5⟩
      go_wp2_with fail
      go_ret
      exact ⟨rfl, by rw [hp.out]; exact hb.out.trans (b5.mono (by have := hps.out; omega))⟩
end Go.Proofs.Ytlaomllgjiochaa
