/- FlightEach: it is true at every input. -/
import Derived.Test.YtifigmhecgbfoaaFlT
import Derived.Deep.RegionHeld3
import Derived.OpenShut
namespace Go.Proofs.Ytifigmhecgbfoaa
open Go.RowKit

theorem ev_two {cs : Nat → Bool} {m : Nat} {keep : Nat → Bool} {f : Fl} {T : Nat → Nat} (h : Ev cs m keep f) (ht : Told m keep T) (q1 q2 : Pk → Bool) :
    ∃ keep', Ev cs m keep' (ftake (ftake f q1) q2) ∧ Told m keep' (tally T (fnums f q1 ++ fnums (ftake f q1) q2)) ∧ (∀ x ∈ fnums f q1 ++ fnums (ftake f q1) q2, (∃ i, x = 2 * i ∧ i < m) ∧ T x = 0) ∧ (fnums f q1 ++ fnums (ftake f q1) q2).Pairwise (· ≠ ·) ∧
      (ftake (ftake f q1) q2).l.length + (fnums f q1 ++ fnums (ftake f q1) q2).length = f.l.length ∧ (fnums f q1).length ≤ m ∧ (fnums (ftake f q1) q2).length ≤ m := by
  obtain ⟨k1, e1, t1, m1, n1, p1, s1, u1, z1⟩ := ev_step h ht q1
  obtain ⟨k2, e2, t2, m2, n2, p2, s2, u2, z2⟩ := ev_step e1 t1 q2
  refine ⟨k2, e2, by rw [← tally_append]; exact t2, fun x hx => ?_, ?_, ?_, n1, n2⟩
  · rcases List.mem_append.1 hx with hx | hx
    · obtain ⟨i, e, h3, h4⟩ := m1 x hx
      exact ⟨⟨i, e, h3⟩, by rw [e, told_even ht i h3, if_pos h4]⟩
    · obtain ⟨i, e, h3, h4⟩ := m2 x hx
      exact ⟨⟨i, e, h3⟩, by rw [e, told_even ht i h3, if_pos (s1 i h4)]⟩
  · rw [List.pairwise_append]
    refine ⟨p1, p2, fun a ha b hb hab => ?_⟩
    obtain ⟨i, e, _, h4⟩ := m2 b hb
    have := z1 a ha i (by rw [hab, e])
    rw [h4] at this; cases this
  · rw [List.length_append]; omega
theorem tally_zero {T : Nat → Nat} {l : List Nat} (hd : l.Pairwise (· ≠ ·)) {k x : Nat} (hx : l[k]? = some x) (h0 : T x = 0) : tally T (l.take k) x = 0 := by
  obtain ⟨hk, e⟩ := List.getElem?_eq_some_iff.1 hx
  subst e
  unfold tally
  rw [h0, count_take hd hk]

/-- append as one step of a region that draws. -/
theorem step_app {P : Program} {w : World} {ops : Array Oper} {o : Oper} {a : Act} {K : Act → World → Prop} {Q : Exit → Act → World → Prop} {E : Prop} (hgd : o.guard = none) (s x : Operand) (t : TypeId)
    (ho : o.op = .call { callee := .builtin .append, args := #[s, x], argTypes := #[t, t] })
    (base : Nat) (e : TypeId) (z : Value) (bytes : Nat) (hinfo : (P.info? e).map (fun i => (i.zero, i.size, i.bytes)) = some (some z, 1, bytes)) (ht : P.underlying t = some (.slice e)) (hzs : z.cells.size = 1)
    (v : Value) (n : Nat) (xs : List Value) (hs : a.eval s = v) (hown : w.ownsRow base e 1 v n xs)
    (A : Option Addr) (m c : Nat) (news : List Value) (hx : a.eval x = .slice A m c) (hl : news.length = m) (hr : Rd w A news) (h1 : ∀ u ∈ news, u.oneCell' = true)
    (h63 : n + m ≤ maxLen) (hbytes : (n + m) * bytes ≤ 140737488355328) (hbase : base ≤ w.heap.size)
    (h : ∀ A' c' w', w'.ownsRow base e 1 (.slice A' (n + m) c') (n + m) (xs ++ news) → w.grownBy w' v.ownBlock →
      ((Value.slice A' (n + m) c').ownBlock = v.ownBlock ∨ (Value.slice A' (n + m) c').ownBlock = some w.heap.size) → K (a.put o.dst (.slice A' (n + m) c')) w') :
    if Region.wanted o (yielded ops a.tmps) = true then Oper.wp P o a w K Q else E := by
  have hw : Region.wanted o (yielded ops a.tmps) = true := by simp [Region.wanted, hgd]
  rw [if_pos hw]
  obtain ⟨i, hi, hz, hsize, hby⟩ := info_parts hinfo
  exact wp_app w s x t ho base e i z bytes ht hi hz hsize hby hzs v n xs hs hown A m c news hx hl hr h1 h63 hbytes hbase h

theorem tdiv_in (x d : Int) (hx : -9223372036854775808 ≤ x ∧ x ≤ 9223372036854775807) (hd : 2 ≤ d) : IntKind.i64.wrap (x.tdiv d) = x.tdiv d := by
  have h : -9223372036854775808 ≤ x.tdiv d ∧ x.tdiv d ≤ 9223372036854775807 := by
    rcases Int.le_total 0 x with h0 | h0
    · rw [Int.tdiv_eq_ediv_of_nonneg h0]
      have h1 := Int.ediv_nonneg h0 (show 0 ≤ d by omega)
      have h2 := Int.ediv_le_self d h0
      omega
    · obtain ⟨y, hy⟩ : ∃ y, -x = y := ⟨_, rfl⟩
      have e : x = -y := by omega
      subst e
      rw [Int.neg_tdiv, Int.tdiv_eq_ediv_of_nonneg (by omega)]
      have h1 := Int.ediv_nonneg (show 0 ≤ y by omega) (show 0 ≤ d by omega)
      have h2 := Int.ediv_le_self d (show 0 ≤ y by omega)
      have h3 : y / d ≤ y / 2 := by
        refine Int.le_ediv_of_mul_le (by omega) ?_
        have h4 := Int.mul_ediv_self_le (x := y) (k := d) (by omega)
        have h5 : y / d * 2 ≤ d * (y / d) := by
          rw [Int.mul_comm (y / d) 2]
          exact Int.mul_le_mul_of_nonneg_right hd h1
        omega
      omega
  rw [IntKind.wrap_i64]; omega

structure EaSt (cs : Nat → Bool) (B : Nat) (w0 w : World) (p g m : Nat) (f : Fl) (keep : Nat → Bool) (T : Nat → Nat) : Prop where
  ev : Ev cs m keep f
  told : Told m keep T
  fl : FlAt B w0 w p f
  arr : AtArr 55 B w g 64 T

set_option maxRecDepth 100000 in
set_option maxHeartbeats 8000000 in
theorem each_in (many : Int) (xs : List Int) (A : Option Addr) (cap n : Nat) (w : World) (hn : xs.length = n) (hr : Rd w A (xs.map (Value.int .i64))) (hn12 : n ≤ 12) (hwf : ∀ x ∈ xs, (Lit.int .i64 x).wf = true) :
    Calls Try.prog 7 #[.int .i64 many, .slice A n cap] w fun e w' => e = .returned (.bool true) ∧ Below w.heap.size w w' := by
  have b2 : decide ((12 : Int) < (n : Int)) = false := decide_eq_false (by omega)
  obtain ⟨r, hr30, L1⟩ := low_ex many 30 (by omega) (by omega)
  obtain ⟨m, hm⟩ : ∃ m, 1 + r = m := ⟨_, rfl⟩
  have hm1 : 1 + (r : Int) = (m : Int) := by omega
  have hm30 : m ≤ 30 := by omega
  have hm0 : 0 < m := by omega
  replace L1 := Lib.hid L1
  have HR := Lib.hid hr
  replace hn := Lib.hid hn
  replace hwf := Lib.hid hwf
  obtain ⟨cs, hcs⟩ : ∃ cs : Nat → Bool, (fun i : Nat => ((i : Int) % 5 != 0)) = cs := ⟨_, rfl⟩
  clear hr hm
  go_enter Try.func7, Try.ntmps7
  go_wp2_with fail
  refine (L1.out _).mono ?_
  rintro e w1 ⟨rfl, rfl⟩
  clear L1
  go_wp2_with fail
  refine (new_at w.heap.size w w (Below.refl _ w) (Nat.le_refl _)).mono ?_
  rintro e w1 ⟨p, rfl, H1, -⟩
  rw [ev0_zero cs] at H1
  replace H1 := Lib.hid H1
  go_wp2_with fail
  clear b2 hm1 hr30
  go_loopw [6] (fun i wr => ∃ k : Nat, k ≤ m ∧ i = .int .i64 k ∧ Hid (FlAt w.heap.size w wr p (ev0 cs k))) (fun i _ => m - (intOf i).toNat)
  case atStart => exact ⟨0, by omega, rfl, H1⟩
  case round =>
    clear H1
    obtain ⟨k, hk, rfl, H⟩ := hrel
    by_cases hkm : k < m
    · obtain ⟨k2, hk2⟩ : ∃ k2, 2 * k = k2 := ⟨_, rfl⟩
      have hk3 : 2 * (k : Int) = (k2 : Int) := by omega
      obtain ⟨V, hV⟩ : ∃ V, ((k : Int) % 5 != 0) = V := ⟨_, rfl⟩
      have hcV : cs k = V := by rw [← hcs]; exact hV
      have q1 : Hid (fsentok (ev0 cs k) k2 k = true) := Lib.hid (by rw [← hk2]; exact ev0_ok _ k (by omega))
      have q2 : Hid (fsent (ev0 cs k) k2 k V = ev0 cs (k + 1)) := Lib.hid (by rw [← hk2, ← hcV]; exact ev0_succ cs k)
      have q3 : Hid ((ev0 cs k).l.length < 100000) := Lib.hid (by simp [ev0]; omega)
      replace hcs := Lib.hid hcs
      replace hcV := Lib.hid hcV
      clear hk2
      go_wp2_with fail
      refine (sent_at (ev0 cs (k + 1)) H.out k2 k V q3.out (by omega) q1.out q2.out).mono ?_
      rintro e w2 ⟨rfl, H2, -⟩
      replace H2 := Lib.hid H2
      clear H
      go_wp2_with fail
      go_roundw
      case rel => exact ⟨k + 1, by omega, by go_num, H2⟩
      case measure => simp [intOf]; omega
    · have hk' : k = m := by omega
      subst hk'
      replace hcs := Lib.hid hcs
      clear hkm hk
      obtain ⟨wo, rfl⟩ : ∃ wo : World, wo = wr := ⟨_, rfl⟩
      go_wp2_with fail
      have hB : w.heap.size ≤ wo.heap.size := by obtain ⟨_, _, _, _, _, x⟩ := H.out; exact x
      go_loopw [8, 9] (fun v i wr => ∃ (k2 l : Nat) (f : Fl) (keep : Nat → Bool) (T : Nat → Nat), k2 ≤ n ∧ i = .int .i64 k2 ∧ v = .int .i64 l ∧ l ≤ k ∧ Hid (f.l.length = l) ∧ Hid (EaSt cs w.heap.size w wr p wo.heap.size k f keep T)) (fun _ i _ => n - (intOf i).toNat)
      case atStart =>
        refine ⟨0, k, _, _, _, by omega, rfl, rfl, Nat.le_refl _, ?_, Lib.hid ⟨Ev.zero _ k, told_zero k, H.out.alloc _, ?_⟩⟩
        · exact Lib.hid (by simp [ev0])
        · exact own_base (AtArr.new 55 wo 64 (by omega) _ rfl) (fun b hb => by injection hb with hb; simp at hb; omega)
      case round =>
        clear H
        obtain ⟨k2, l, f, keep, T, hk2, rfl, rfl, hlk, hfl, HS⟩ := hrel
        by_cases hkn : k2 < n
        · obtain ⟨b, off, rfl, hcell⟩ := (HR.out.below HS.out.fl.bl).at_ (k := k2) (by simp; have := hn.out; omega)
          rw [List.getElem_map] at hcell
          obtain ⟨x, hx⟩ : ∃ x, xs[k2]? = some x := ⟨_, List.getElem?_eq_getElem (by have := hn.out; omega)⟩
          rw [(List.getElem?_eq_some_iff.1 hx).2] at hcell
          have hxw := bounds_i64 (hwf.out x (List.mem_of_getElem? hx))
          obtain ⟨m2, hm2⟩ : ∃ m2, 2 * k = m2 := ⟨_, rfl⟩
          obtain ⟨m3, hm3⟩ : ∃ m3, m2 - 1 = m3 := ⟨_, rfl⟩
          obtain ⟨m4, hm4⟩ : ∃ m4, m2 - 2 = m4 := ⟨_, rfl⟩
          have i1 : 2 * (k : Int) = (m2 : Int) := by omega
          have i2 : (m2 : Int) - 1 = (m3 : Int) := by omega
          have i3 : (m2 : Int) - 2 = (m4 : Int) := by omega
          have hm2b : m2 ≤ 60 := by omega
          have hm3b : m3 ≤ 60 := by omega
          have hm4b : m4 ≤ 60 := by omega
          obtain ⟨lo, hlo, L⟩ := low_ex x m3 (by omega) (by omega)
          obtain ⟨g9, hg9, Lg⟩ := low_ex (x.tdiv 64) 9 (by omega) (by omega)
          obtain ⟨q6, hq6, Lq⟩ := low_ex (x.tdiv 700) 60 (by omega) (by omega)
          have hlo4 : lo ≤ m4 := by omega
          obtain ⟨s9, hs9⟩ : ∃ s9, lo + g9 = s9 := ⟨_, rfl⟩
          have i4 : (lo : Int) + (g9 : Int) = (s9 : Int) := by omega
          obtain ⟨hi, hhi⟩ : ∃ hi, min s9 m4 = hi := ⟨_, rfl⟩
          have hMin := fun (ts : Array TypeId) (t : TypeId) (w : World) => run_min2 (P := Try.prog) (s9 : Int) (m4 : Int) (hi : Int) (by omega) ts t w
          have hlh : lo ≤ hi := by omega
          have hh4 : hi ≤ m4 := by omega
          have hw700 : IntKind.i64.wrap (x.tdiv 700) = x.tdiv 700 := tdiv_in x 700 (by omega) (by omega)
          replace L := Lib.hid L
          replace Lg := Lib.hid Lg
          replace Lq := Lib.hid Lq
          replace hx := Lib.hid hx
          have q1 : Hid (([⟨lo, hi⟩] : List Rg).any (rbad f) = false) := Lib.hid (HS.out.ev.good lo hi hlh (by omega) (by omega))
          obtain ⟨keep2, E2, T2, M2, P2, S2, N1, N2⟩ := ev_two (HS.out.ev.heard [⟨lo, hi⟩]) HS.out.told (qcame [⟨lo, hi⟩]) (qlost (ftake (fheard f [⟨lo, hi⟩]) (qcame [⟨lo, hi⟩])).came (ftake (fheard f [⟨lo, hi⟩]) (qcame [⟨lo, hi⟩])).largest (q6 : Int) (max 20 1))
          rw [show (fheard f [⟨lo, hi⟩]).l.length = f.l.length from rfl, hfl.out] at S2
          obtain ⟨f1, hf1⟩ : ∃ f1, ftake (fheard f [⟨lo, hi⟩]) (qcame [⟨lo, hi⟩]) = f1 := ⟨_, rfl⟩
          obtain ⟨L1, hL1⟩ : ∃ L1, fnums (fheard f [⟨lo, hi⟩]) (qcame [⟨lo, hi⟩]) = L1 := ⟨_, rfl⟩
          rw [hf1] at E2 T2 M2 P2 S2
          rw [hL1] at T2 M2 P2 S2
          rw [hL1] at N1
          rw [hf1] at N2
          obtain ⟨f2, hf2⟩ : ∃ f2, ftake f1 (qlost f1.came f1.largest (q6 : Int) (max 20 1)) = f2 := ⟨_, rfl⟩
          obtain ⟨L2, hL2⟩ : ∃ L2, fnums f1 (qlost f1.came f1.largest (q6 : Int) (max 20 1)) = L2 := ⟨_, rfl⟩
          rw [hf2] at E2 S2
          rw [hL2] at S2
          rw [hL2] at T2 M2 P2 N2
          replace hf1 := Lib.hid hf1
          have hL1' : Hid (fnums f (qcame [⟨lo, hi⟩]) = L1) := Lib.hid hL1
          replace hf2 := Lib.hid hf2
          replace hL2 := Lib.hid hL2
          replace E2 := Lib.hid E2
          replace T2 := Lib.hid T2
          replace M2 := Lib.hid M2
          replace P2 := Lib.hid P2
          obtain ⟨l2, hl2⟩ : ∃ l2, f2.l.length = l2 := ⟨_, rfl⟩
          rw [hl2, List.length_append] at S2
          replace hl2 := Lib.hid hl2
          obtain ⟨N, hN⟩ : ∃ N, L1.length + L2.length = N := ⟨_, rfl⟩
          rw [hN] at S2
          have S3 : l2 + N ≤ l := by omega
          have S4 : Hid (l2 + N = l) := Lib.hid S2
          have hN2 : Hid (L1.length + L2.length = N) := Lib.hid hN
          have hNb : N ≤ 60 := by omega
          have hB5 : b < w.heap.size := by
            have := HR.out.lt (by simp; have := hn.out; omega)
            obtain ⟨a, h1, h2⟩ := this
            injection h1 with h1; subst h1; exact h2
          clear hm2 hm3 hm4 hs9 hhi hL1 S2 hN
          have hcell0 : Hid (w.cell? ⟨b, off + k2, none⟩ = some (.int .i64 x)) := Lib.hid (by
            have := HS.out.fl.bl.cell (p := ⟨b, off + k2, none⟩) hB5
            rw [← this]; exact hcell)
          go_wp2_with fail
          refine (L.out _).mono ?_
          rintro e w2 ⟨rfl, rfl⟩
          clear L
          go_wp2_with fail
          refine (Lg.out _).mono ?_
          rintro e w2 ⟨rfl, rfl⟩
          clear Lg
          go_wp2_with fail
          refine (came_lit f1 L1 HS.out.fl lo hi _ q1.out hL1'.out hf1.out).mono ?_
          rintro e w2 ⟨A1, c1, rfl, o1, F1, K1⟩
          have R1 := Lib.hid (K1.own HS.out.arr rfl rfl)
          replace hcell : w2.cell? ⟨b, off + k2, none⟩ = some (.int .i64 x) := (F1.bl.cell (p := ⟨b, off + k2, none⟩) hB5).trans hcell0.out
          replace F1 := Lib.hid F1
          replace o1 := Lib.hid o1
          clear HS K1 q1 hf1 hL1' hfl
          go_wp2_with fail
          have hs2 : w.heap.size ≤ w2.heap.size := by obtain ⟨_, _, _, _, _, x⟩ := F1.out; exact x
          go_region_held3 (fun W => W.cell? ⟨b, off + k2, none⟩ = some (.int .i64 x)) (first | assumption | go_keep) (first
            | ((refine step_app rfl _ _ 25 rfl w.heap.size 27 (.int .u64 0) 8 infoU Try.underlying25 rfl (.slice none 0 0) 0 [] rfl (World.ownsRow_nil _ _ _ _) A1 L1.length c1 (nv L1) rfl (by simp [nv]) ((Rd.of_own o1.out).drew) (nv_one _) (by unfold maxLen; omega) (by omega) hs2 ?_); intro A3 c3 w3 ho3 hg3 _; have F3 := Lib.hid ((F1.out.below (Still.below (Still.drew _))).grown0 (b := w.heap.size) (e := 27) (s := 1) (n := 0) (xs := []) (Nat.le_refl _) (World.ownsRow_nil _ _ _ _) rfl rfl hg3); have R3 := Lib.hid (grown_kp (b := w.heap.size) (e := 27) (s := 1) (n := 0) (xs := []) (World.ownsRow_nil _ _ _ _) hg3 (Still.own (Still.drew _) R1.out) rfl); have hcell3 : w3.cell? ⟨b, off + k2, none⟩ = some (.int .i64 x) := (F3.out.bl.cell (p := ⟨b, off + k2, none⟩) hB5).trans hcell0.out; simp only [Nat.zero_add, List.nil_append] at ho3 ⊢; replace ho3 := Lib.hid ho3; clear F1 R1 o1 hg3 hs2)
            | (go_at_call 8; refine (Lq.out _).mono ?_; rintro e w8 ⟨rfl, rfl⟩)
            | (go_at_call 11; refine (lost_at f2 L2 F3.out (q6 : Int) 20 (by omega) hL2.out hf2.out).mono ?_; rintro e w4 ⟨A4, c4, rfl, o4, F4, K4⟩; have R4 := Lib.hid (K4.own R3.out rfl rfl); have ho4 := Lib.hid (K4.own ho3.out rfl rfl); replace F4 := Lib.hid F4; replace o4 := Lib.hid o4; have hcell4 : w4.cell? ⟨b, off + k2, none⟩ = some (.int .i64 x) := (F4.out.bl.cell (p := ⟨b, off + k2, none⟩) hB5).trans hcell0.out; have hs4 : w.heap.size ≤ w4.heap.size := (by obtain ⟨_, _, _, _, _, x⟩ := F4.out; exact x); clear F3 R3 K4)
            | ((refine step_app rfl _ _ 25 rfl w.heap.size 27 (.int .u64 0) 8 infoU Try.underlying25 rfl (.slice A3 L1.length c3) L1.length (nv L1) rfl ho4.out A4 L2.length c4 (nv L2) rfl (by simp [nv]) (Rd.of_own o4.out) (nv_one _) (by unfold maxLen; omega) (by omega) hs4 ?_); intro An cn w5 oG hg5 _; have F5 := Lib.hid (F4.out.grown0 (Nat.le_refl _) ho4.out rfl rfl hg5); have R5 := Lib.hid (grown_kp ho4.out hg5 R4.out rfl); have hcell5 : w5.cell? ⟨b, off + k2, none⟩ = some (.int .i64 x) := (F5.out.bl.cell (p := ⟨b, off + k2, none⟩) hB5).trans hcell0.out; rw [← nv_app, hN2.out] at oG; rw [hN2.out]; replace oG := Lib.hid oG))
          go_wp2_with fail
          obtain ⟨Lst, hLst⟩ : ∃ Lst, L1 ++ L2 = Lst := ⟨_, rfl⟩
          have hLl : Hid (Lst.length = N) := Lib.hid (by rw [← hLst, List.length_append]; exact hN2.out)
          rw [hLst] at oG T2 M2 P2
          clear hLst hN2 hL2 hf2 hcell3 hcell4 hcell5 hcell0 Lq hw700 hMin ho3 ho4 o4 F4 R4 hs4 i4 hg5
          go_loopw [8, 14] (fun v i wr => ∃ k3 l3 : Nat, k3 ≤ N ∧ i = .int .i64 k3 ∧ v = .int .i64 l3 ∧ Hid (k3 + l3 = l) ∧ Hid (FlAt w.heap.size w wr p f2) ∧ Hid (AtArr 55 w.heap.size wr wo.heap.size 64 (tally T (Lst.take k3))) ∧ Hid (wr.ownsRow w.heap.size 27 1 (.slice An N cn) N (nv Lst))) (fun _ i _ => N - (intOf i).toNat)
          case atStart => exact ⟨0, l, by omega, rfl, rfl, Lib.hid (by omega), F5, by rw [List.take_zero, tally_nil]; exact R5, oG⟩
          case round =>
            obtain ⟨k3, l3, hk3, rfl, rfl, hl3, F6, R6, o6⟩ := hrel
            clear F5 R5 oG
            by_cases hkN : k3 < N
            · obtain ⟨y, hy⟩ : ∃ y, Lst[k3]? = some y := ⟨_, List.getElem?_eq_getElem (by rw [hLl.out]; exact hkN)⟩
              obtain ⟨⟨j, hj, hjk⟩, hT0⟩ := M2.out y (List.mem_of_getElem? hy)
              have hc1 : ∃ gb, An = some ⟨gb, 0, none⟩ ∧ ∀ W : World, W.ownsRow w.heap.size 27 1 (.slice An N cn) N (nv Lst) → W.cell? ⟨gb, k3, none⟩ = some (.int .u64 y) := by
                rcases own_cases o6.out with ⟨_, h2, _⟩ | ⟨gb, h1, _⟩
                · omega
                · subst h1
                  refine ⟨gb, rfl, fun W ho => ?_⟩
                  have := ho.cells (g := gb) rfl k3 (.int .u64 y) (by simp [nv, hy])
                  rwa [WideShapes.add_plain, Nat.zero_add] at this
              obtain ⟨gb, rfl, hc1⟩ := hc1
              replace hc1 := hc1 _ o6.out
              have hv : tally T (Lst.take k3) y = 0 := tally_zero P2.out hy hT0
              have hya : y < 64 := by omega
              have hc2 : wr.cell? ⟨wo.heap.size, y, none⟩ = some (.int .i64 0) := by have := R6.out.cell hya; rw [hv] at this; exact this
              have hc3 := R6.out.frozen y
              have hym : y < m2 := by omega
              have hb1 : decide ((m2 : Int) ≤ (y : Int)) = false := decide_eq_false (by omega)
              have hy2 : (y : Int) % 2 = 0 := by omega
              have hyI : (y : Int) < 64 := by omega
              have hl4 : 1 ≤ l3 := by have := hl3.out; omega
              obtain ⟨l4, hl5⟩ : ∃ l4, l4 + 1 = l3 := ⟨l3 - 1, by omega⟩
              have hl6 : (l3 : Int) - 1 = (l4 : Int) := by omega
              have hl7 : Hid (k3 + 1 + l4 = l) := Lib.hid (by have := hl3.out; omega)
              have hl8 : l3 ≤ 60 := by have := hl3.out; omega
              have RN : Hid (∀ W, W = wr.setCell ⟨wo.heap.size, y, none⟩ (.int .i64 1) → AtArr 55 w.heap.size W wo.heap.size 64 (tally T (Lst.take (k3 + 1))) ∧ FlAt w.heap.size w W p f2 ∧ W.ownsRow w.heap.size 27 1 (.slice (some ⟨gb, 0, none⟩) N cn) N (nv Lst)) := Lib.hid (by
                rintro W rfl
                refine ⟨?_, F6.out.put R6.out rfl rfl _ _, R6.out.put_other o6.out rfl _ _⟩
                have := R6.out.put y 1
                rw [← tally_put T Lst k3 y hy, show tally T (Lst.take k3) y + 1 = 1 from by rw [hv]]
                exact this)
              replace hy := Lib.hid hy
              clear hj hv hT0 hl5
              go_wp2_with fail
              go_roundw
              case rel =>
                obtain ⟨n1, n2, n3⟩ := RN.out _ rfl
                exact ⟨k3 + 1, l4, by omega, by go_num, by go_num, hl7, Lib.hid n2, Lib.hid n1, Lib.hid n3⟩
              case measure => simp [intOf]; omega
            · have hk3' : k3 = N := by omega
              subst hk3'
              have hl3' : l3 = l2 := by have := hl3.out; have := S4.out; omega
              subst hl3'
              have e : Lst.take k3 = Lst := List.take_of_length_le (by rw [hLl.out]; exact Nat.le_refl _)
              rw [e] at R6
              replace e := Lib.hid e
              have huu : ((l3 : Int) != (l3 : Int)) = false := by simp
              go_wp2_with fail
              refine (under_at l3 F6.out hl2.out).mono ?_
              rintro e w7 ⟨rfl, rfl⟩
              go_wp2_with fail
              go_roundw
              case rel => exact ⟨k2 + 1, l3, f2, keep2, tally T Lst, by omega, by go_num, rfl, by omega, hl2, Lib.hid ⟨E2.out, T2.out, F6.out, R6.out⟩⟩
              case measure => simp [intOf]; omega
        · have hk2' : k2 = n := by omega
          subst hk2'
          have hE := HS.out.ev
          have hT := HS.out.told
          have hF := HS.out.fl
          have hR := HS.out.arr
          clear HS
          replace hE := Lib.hid hE
          replace hT := Lib.hid hT
          replace hF := Lib.hid hF
          replace hR := Lib.hid hR
          clear hfl
          go_wp2_with fail
          go_loopw [15] (fun i wr => ∃ j : Nat, j ≤ k ∧ i = .int .i64 j ∧ Hid (FlAt w.heap.size w wr p f) ∧ Hid (AtArr 55 w.heap.size wr wo.heap.size 64 T)) (fun i _ => k - (intOf i).toNat)
          case atStart => exact ⟨0, by omega, rfl, hF, hR⟩
          case round =>
            clear hF hR
            obtain ⟨j, hj, rfl, hF, hR⟩ := hrel
            by_cases hjk : j < k
            · obtain ⟨j2, hj2⟩ : ∃ j2, 2 * j = j2 := ⟨_, rfl⟩
              have hj3 : 2 * (j : Int) = (j2 : Int) := by omega
              have hage : Hid (fage f j2 = if keep j = true then some j else none) := Lib.hid (by rw [← hj2]; exact hE.out.age j hjk)
              have htl : Hid (T j2 = if keep j = true then 0 else 1) := Lib.hid (by rw [← hj2]; exact told_even hT.out j hjk)
              have hja : j2 < 64 := by omega
              have hjI : (j2 : Int) < 64 := by omega
              clear hj2
              cases hkeep : keep j
              · have c := fun (W : World) (h : AtArr 55 w.heap.size W wo.heap.size 64 T) => h.cell hja
                rw [htl.out, hkeep] at c
                replace c := Lib.hid c
                have a1 : Hid ((fage f j2).getD 0 = 0 ∧ (fage f j2).isSome = false) := Lib.hid (by rw [hage.out, hkeep]; exact ⟨rfl, rfl⟩)
                replace hkeep := Lib.hid hkeep
                go_wp2_with fail
                refine (age_at 0 false hF.out j2 a1.out.1 a1.out.2).mono ?_
                rintro e w2 ⟨rfl, F2, B2⟩
                have R2 : AtArr 55 w.heap.size w2 wo.heap.size 64 T := bel_own B2 hR.out
                have hc := c.out w2 R2
                replace R2 := Lib.hid R2
                replace F2 := Lib.hid F2
                clear B2 hF hR c
                simp only [if_false, Bool.false_eq_true] at hc
                go_wp2_with fail
                go_roundw
                case rel => exact ⟨j + 1, by omega, by go_num, F2, R2⟩
                case measure => simp [intOf]; omega
              · have c := fun (W : World) (h : AtArr 55 w.heap.size W wo.heap.size 64 T) => h.cell hja
                rw [htl.out, hkeep] at c
                replace c := Lib.hid c
                have a1 : Hid ((fage f j2).getD 0 = j ∧ (fage f j2).isSome = true) := Lib.hid (by rw [hage.out, hkeep]; exact ⟨rfl, rfl⟩)
                replace hkeep := Lib.hid hkeep
                have hjj : ((j : Int) != (j : Int)) = false := by simp
                go_wp2_with fail
                refine (age_at j true hF.out j2 a1.out.1 a1.out.2).mono ?_
                rintro e w2 ⟨rfl, F2, B2⟩
                have R2 : AtArr 55 w.heap.size w2 wo.heap.size 64 T := bel_own B2 hR.out
                have hc := c.out w2 R2
                replace R2 := Lib.hid R2
                replace F2 := Lib.hid F2
                clear B2 hF hR c
                simp only [if_true] at hc
                go_wp2_with fail
                go_roundw
                case rel => exact ⟨j + 1, by omega, by go_num, F2, R2⟩
                case measure => simp [intOf]; omega
            · go_wp2_with fail
              refine (awake_any _).mono ?_
              rintro e wf ⟨rfl, hbf⟩
              go_wp2_with fail
              go_ret
              exact ⟨rfl, hF.out.bl.trans (hbf.mono hF.out.bl.size)⟩

set_option maxRecDepth 100000 in
set_option maxHeartbeats 2000000 in
theorem each_any (many : Int) (xs : List Int) (A : Option Addr) (cap : Nat) (w : World) (hr : Rd w A (xs.map (Value.int .i64))) (hc : xs.length ≤ 9223372036854775807) (hwf : ∀ x ∈ xs, (Lit.int .i64 x).wf = true) :
    Calls Try.prog 7 #[.int .i64 many, .slice A xs.length cap] w fun e w' => e = .returned (.bool true) ∧ Below w.heap.size w w' := by
  obtain ⟨n, hn⟩ : ∃ n, xs.length = n := ⟨_, rfl⟩
  rw [hn] at hc ⊢
  by_cases h12 : n ≤ 12
  · exact each_in many xs A cap n w hn hr h12 hwf
  · have b2 : decide ((12 : Int) < (n : Int)) = true := decide_eq_true (by omega)
    clear hn hr hwf
    go_enter Try.func7, Try.ntmps7
    go_wp2_with fail
    refine (awake_any _).mono ?_
    rintro e wf ⟨rfl, hbf⟩
    go_wp2_with fail
    go_ret
    exact ⟨rfl, hbf⟩
end Go.Proofs.Ytifigmhecgbfoaa
