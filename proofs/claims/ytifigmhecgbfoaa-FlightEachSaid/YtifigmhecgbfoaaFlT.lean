/- FlightOnce: it is true at every input. -/
import Derived.Test.YtifigmhecgbfoaaFlS
namespace Go.Proofs.Ytifigmhecgbfoaa
open Go.RowKit

theorem ev_step {cs : Nat → Bool} {m : Nat} {keep : Nat → Bool} {f : Fl} {T : Nat → Nat} (h : Ev cs m keep f) (ht : Told m keep T) (q : Pk → Bool) :
    ∃ keep', Ev cs m keep' (ftake f q) ∧ Told m keep' (tally T (fnums f q)) ∧ (∀ x ∈ fnums f q, ∃ i, x = 2 * i ∧ i < m ∧ keep i = true) ∧ (fnums f q).length ≤ m ∧ (fnums f q).Pairwise (· ≠ ·) ∧ (∀ i, keep' i = true → keep i = true) ∧
      (ftake f q).l.length + (fnums f q).length = f.l.length ∧ (∀ x ∈ fnums f q, ∀ i, x = 2 * i → keep' i = false) := by
  obtain ⟨h1, h2⟩ := h.take q
  refine ⟨_, h1, by rw [h2]; exact told_next ht, fun x hx => ?_, by rw [h2]; exact evN_len _ _, by rw [h2]; exact evN_rise _ _, fun i hi => by simp at hi; exact hi.1, by have := ftake_len f q; omega, fun x hx i hi => ?_⟩
  · rw [h2] at hx
    obtain ⟨i, e, h3, h4⟩ := evN_mem hx
    exact ⟨i, e, h3, by simp at h4; exact h4.1⟩
  · rw [h2] at hx
    obtain ⟨j, e, h3, h4⟩ := evN_mem hx
    have : i = j := by omega
    subst this
    simp at h4
    simp [h4]
theorem tally_le (T : Nat → Nat) (l : List Nat) (x : Nat) (h : T x ≤ 1) : tally T l x ≤ 1 + l.length := by
  unfold tally; have := List.count_le_length (a := x) (l := l); omega
theorem tally_nil (T : Nat → Nat) : tally T [] = T := by funext y; simp [tally]
theorem told_le {m : Nat} {keep : Nat → Bool} {T : Nat → Nat} (h : Told m keep T) (x : Nat) : T x ≤ 1 := by rw [h x]; split <;> omega
theorem tally_put (T : Nat → Nat) (l : List Nat) (k x : Nat) (h : l[k]? = some x) : (fun y => if y = x then tally T (l.take k) x + 1 else tally T (l.take k) y) = tally T (l.take (k + 1)) := by
  obtain ⟨hk, e⟩ := List.getElem?_eq_some_iff.1 h
  funext y
  rw [tally_snoc T l k hk y, e]
  by_cases hy : y = x
  · subst hy; simp only [if_true]
  · rw [if_neg hy, if_neg hy]
/-- What the rounds of FlightOnce know. -/
structure OnSt (B : Nat) (w0 w : World) (p g m : Nat) (f : Fl) (keep : Nat → Bool) (T : Nat → Nat) : Prop where
  ev : Ev (fun _ => true) m keep f
  told : Told m keep T
  fl : FlAt B w0 w p f
  arr : AtArr 53 B w g 62 T

set_option maxRecDepth 100000 in
set_option maxHeartbeats 8000000 in
theorem once_in (many looks : Int) (cs : List Int) (A : Option Addr) (cap n : Nat) (w : World) (hn : cs.length = n) (hr : Rd w A (cs.map (Value.int .i64))) (hn40 : n ≤ 40) (m : Nat) (hm : m < 31) (L1 : ∀ w : World, Calls Try.prog 8 #[.int .i64 many, .int .i64 (31 : Nat)] w fun e w' => e = .returned (.int .i64 m) ∧ w = w') (hm0 : 0 < m) :
    Calls Try.prog 6 #[.int .i64 many, .slice A n cap, .int .i64 looks] w fun e w' => e = .returned (.bool true) ∧ Below w.heap.size w w' := by
  have b2 : decide ((40 : Int) < (n : Int)) = false := decide_eq_false (by omega)
  replace L1 := Lib.hid L1
  have HR := Lib.hid hr
  replace hn := Lib.hid hn
  clear hr
  go_enter Try.func6, Try.ntmps6
  go_wp2_with fail
  refine (L1.out _).mono ?_
  rintro e w1 ⟨rfl, rfl⟩
  clear L1
  go_wp2_with fail
  refine (new_at w.heap.size w w (Below.refl _ w) (Nat.le_refl _)).mono ?_
  rintro e w1 ⟨p, rfl, H1, -⟩
  rw [ev0_zero (fun _ => true)] at H1
  replace H1 := Lib.hid H1
  go_wp2_with fail
  clear b2
  go_loopw [8] (fun i wr => ∃ k : Nat, k ≤ m ∧ i = .int .i64 k ∧ Hid (FlAt w.heap.size w wr p (ev0 (fun _ => true) k))) (fun i _ => m - (intOf i).toNat)
  case atStart => exact ⟨0, by omega, rfl, H1⟩
  case round =>
    clear H1
    obtain ⟨k, hk, rfl, H⟩ := hrel
    by_cases hkm : k < m
    · obtain ⟨k2, hk2⟩ : ∃ k2, 2 * k = k2 := ⟨_, rfl⟩
      have hk3 : 2 * (k : Int) = (k2 : Int) := by omega
      have q1 : Hid (fsentok (ev0 (fun _ => true) k) k2 k = true) := Lib.hid (by rw [← hk2]; exact ev0_ok _ k (by omega))
      have q2 : Hid (fsent (ev0 (fun _ => true) k) k2 k true = ev0 (fun _ => true) (k + 1)) := Lib.hid (by rw [← hk2]; exact ev0_succ (fun _ => true) k)
      have q3 : Hid ((ev0 (fun _ => true) k).l.length < 100000) := Lib.hid (by simp [ev0]; omega)
      clear hk2
      go_wp2_with fail
      refine (sent_at (ev0 (fun _ => true) (k + 1)) H.out k2 k true q3.out (by omega) q1.out q2.out).mono ?_
      rintro e w2 ⟨rfl, H2, -⟩
      replace H2 := Lib.hid H2
      clear H
      go_wp2_with fail
      go_roundw
      case rel => exact ⟨k + 1, by omega, by go_num, H2⟩
      case measure => simp [intOf]; omega
    · have hk' : k = m := by omega
      subst hk'
      clear hkm hk
      obtain ⟨wo, rfl⟩ : ∃ wo : World, wo = wr := ⟨_, rfl⟩
      go_wp2_with fail
      have hB : w.heap.size ≤ wo.heap.size := by obtain ⟨_, _, _, _, _, x⟩ := H.out; exact x
      go_loopw [10] (fun i wr => ∃ (k2 : Nat) (f : Fl) (keep : Nat → Bool) (T : Nat → Nat), k2 ≤ n ∧ i = .int .i64 k2 ∧ Hid (OnSt w.heap.size w wr p wo.heap.size k f keep T)) (fun i _ => n - (intOf i).toNat)
      case atStart =>
        refine ⟨0, _, _, _, by omega, rfl, Lib.hid ⟨Ev.zero _ k, told_zero k, H.out.alloc _, ?_⟩⟩
        exact own_base (AtArr.new 53 wo 62 (by omega) _ rfl) (fun b hb => by injection hb with hb; simp at hb; omega)
      case round =>
        clear H
        obtain ⟨k2, f, keep, T, hk2, rfl, HS⟩ := hrel
        by_cases hkn : k2 < n
        · obtain ⟨b, off, rfl, hcell⟩ := (HR.out.below HS.out.fl.bl).at_ (k := k2) (by simp; have := hn.out; omega)
          rw [List.getElem_map] at hcell
          obtain ⟨x, hx⟩ : ∃ x, cs[k2]'(by have := hn.out; omega) = x := ⟨_, rfl⟩
          rw [hx] at hcell
          obtain ⟨j, hj, L⟩ := low_ex x k (by omega) (by omega)
          replace L := Lib.hid L
          obtain ⟨j2, hj2⟩ : ∃ j2, 2 * j = j2 := ⟨_, rfl⟩
          have hj3 : 2 * (j : Int) = (j2 : Int) := by omega
          have q1 : Hid (([⟨j2, j2⟩] : List Rg).any (rbad f) = false) := Lib.hid (HS.out.ev.good j2 j2 (Nat.le_refl _) (by omega) (by omega))
          obtain ⟨keep1, E1, T1, M1, N1, -, -, -, -⟩ := ev_step (HS.out.ev.heard [⟨j2, j2⟩]) HS.out.told (qcame [⟨j2, j2⟩])
          obtain ⟨f1, hf1⟩ : ∃ f1, ftake (fheard f [⟨j2, j2⟩]) (qcame [⟨j2, j2⟩]) = f1 := ⟨_, rfl⟩
          obtain ⟨L1, hL1⟩ : ∃ L1, fnums f (qcame [⟨j2, j2⟩]) = L1 := ⟨_, rfl⟩
          rw [show fnums (fheard f [⟨j2, j2⟩]) (qcame [⟨j2, j2⟩]) = fnums f (qcame [⟨j2, j2⟩]) from rfl, hL1] at T1 M1 N1
          rw [hf1] at E1
          replace hf1 := Lib.hid hf1
          replace hL1 := Lib.hid hL1
          replace M1 := Lib.hid M1
          replace E1 := Lib.hid E1
          replace T1 := Lib.hid T1
          have hr60 : (k2 : Int) % 60 = (k2 : Int) := by omega
          obtain ⟨V, hb⟩ : ∃ V, (bits BinOp.and IntKind.i64 (looks / 2 ^ k2) 1 == 1) = V := ⟨_, rfl⟩
          have hTl := Lib.hid (told_le HS.out.told)
          clear hx hj2
          go_wp2_with fail
          refine (L.out _).mono ?_
          rintro e w2 ⟨rfl, rfl⟩
          clear L
          go_wp2_with fail
          refine (came_lit f1 L1 HS.out.fl j2 j2 _ q1.out hL1.out hf1.out).mono ?_
          rintro e w2 ⟨A1, c1, rfl, o1, F1, K1⟩
          have R1 := Lib.hid (K1.own HS.out.arr rfl rfl)
          replace F1 := Lib.hid F1
          replace o1 := Lib.hid o1
          clear HS K1 q1 hf1 hL1 hcell
          cases V
          case' true =>
            obtain ⟨keep2, E2, T2, M2, N2, -, -, -, -⟩ := ev_step E1.out T1.out (qlost f1.came f1.largest ((k : Int) + (k2 : Int)) (max 20 1))
            obtain ⟨f2, hf2⟩ : ∃ f2, ftake f1 (qlost f1.came f1.largest ((k : Int) + (k2 : Int)) (max 20 1)) = f2 := ⟨_, rfl⟩
            obtain ⟨L2, hL2⟩ : ∃ L2, fnums f1 (qlost f1.came f1.largest ((k : Int) + (k2 : Int)) (max 20 1)) = L2 := ⟨_, rfl⟩
            rw [hL2] at T2 M2 N2
            rw [hf2, ] at E2
            rw [tally_append] at T2
            replace hf2 := Lib.hid hf2
            replace hL2 := Lib.hid hL2
            replace E2 := Lib.hid E2
            replace T2 := Lib.hid T2
            have M3 : Hid (∀ x ∈ L1 ++ L2, ∃ i, x = 2 * i ∧ i < k) := Lib.hid (fun x hx => by
              rcases List.mem_append.1 hx with hx | hx
              · obtain ⟨i, e, h, _⟩ := M1.out x hx; exact ⟨i, e, h⟩
              · obtain ⟨i, e, h, _⟩ := M2 x hx; exact ⟨i, e, h⟩)
            clear M2 T1 M1 E1
            have hs2 : w.heap.size ≤ w2.heap.size := by obtain ⟨_, _, _, _, _, x⟩ := F1.out; exact x
            go_wp2_with (at_builtin; refine wpList_app _ rfl _ _ 25 rfl w.heap.size 27 (.int .u64 0) 8 infoU Try.underlying25 rfl (.slice none 0 0) 0 [] rfl (World.ownsRow_nil _ _ _ _) A1 L1.length c1 (nv L1) rfl (by simp [nv]) (Rd.of_own o1.out) (nv_one _) (by unfold maxLen; omega) (by omega) hs2 ?_; intro A3 c3 w3 ho3 hg3 _; have F3 := Lib.hid (F1.out.grown0 (b := w.heap.size) (e := 27) (s := 1) (n := 0) (xs := []) (Nat.le_refl _) (World.ownsRow_nil _ _ _ _) rfl rfl hg3); have R3 := Lib.hid (grown_kp (b := w.heap.size) (e := 27) (s := 1) (n := 0) (xs := []) (World.ownsRow_nil _ _ _ _) hg3 R1.out rfl); simp only [Nat.zero_add, List.nil_append] at ho3 ⊢; replace ho3 := Lib.hid ho3; clear F1 R1 o1 hg3 hs2)
            refine (lost_at f2 L2 F3.out ((k : Int) + (k2 : Int)) 20 (by omega) hL2.out hf2.out).mono ?_
            rintro e w4 ⟨A4, c4, rfl, o4, F4, K4⟩
            have R4 := Lib.hid (K4.own R3.out rfl rfl)
            replace ho3 := Lib.hid (K4.own ho3.out rfl rfl)
            replace F4 := Lib.hid F4
            replace o4 := Lib.hid o4
            clear F3 R3 K4
            have hs4 : w.heap.size ≤ w4.heap.size := by obtain ⟨_, _, _, _, _, x⟩ := F4.out; exact x
            go_wp2_with (at_builtin; refine wpList_app _ rfl _ _ 25 rfl w.heap.size 27 (.int .u64 0) 8 infoU Try.underlying25 rfl (.slice A3 L1.length c3) L1.length (nv L1) rfl ho3.out A4 L2.length c4 (nv L2) rfl (by simp [nv]) (Rd.of_own o4.out) (nv_one _) (by unfold maxLen; omega) (by omega) hs4 ?_; intro An cn w5 oG hg5 _; have F5 := Lib.hid (F4.out.grown0 (Nat.le_refl _) ho3.out rfl rfl hg5); have R5 := Lib.hid (grown_kp ho3.out hg5 R4.out rfl); rw [← nv_app] at oG; obtain ⟨Lst, hLst⟩ : ∃ Lst, L1 ++ L2 = Lst := ⟨_, rfl⟩; obtain ⟨N, hN⟩ : ∃ N, L1.length + L2.length = N := ⟨_, rfl⟩; have hN2 : Lst.length = N := (by rw [← hLst, List.length_append]; exact hN); have hN3 : N ≤ 60 := (by omega); rw [hLst] at oG T2 M3; rw [hN] at oG ⊢; replace oG := Lib.hid oG; replace hN2 := Lib.hid hN2; clear F4 R4 o4 hg5 hs4 ho3 hLst hN)
            clear hL2 hf2
          case' false =>
            obtain ⟨keep2, rfl⟩ : ∃ keep2, keep2 = keep1 := ⟨_, rfl⟩
            obtain ⟨f2, rfl⟩ : ∃ f2, f2 = f1 := ⟨_, rfl⟩
            obtain ⟨Lst, rfl⟩ : ∃ Lst, Lst = L1 := ⟨_, rfl⟩
            obtain ⟨An, rfl⟩ : ∃ An, An = A1 := ⟨_, rfl⟩
            obtain ⟨cn, rfl⟩ : ∃ cn, cn = c1 := ⟨_, rfl⟩
            have E2 := Lib.hid E1.out
            have T2 := Lib.hid T1.out
            have M3 : Hid (∀ x ∈ Lst, ∃ i, x = 2 * i ∧ i < k) := Lib.hid (fun x hx => by obtain ⟨i, e, h, _⟩ := M1.out x hx; exact ⟨i, e, h⟩)
            obtain ⟨N, hN⟩ : ∃ N, Lst.length = N := ⟨_, rfl⟩
            have hN2 : Hid (Lst.length = N) := Lib.hid hN
            have hN3 : N ≤ 60 := by omega
            rw [hN] at o1 N1 ⊢
            have oG := Lib.hid o1.out
            have F5 := Lib.hid F1.out
            have R5 := Lib.hid R1.out
            clear hN E1 T1 M1 F1 R1 o1
            go_wp2_with fail
          all_goals
            clear hr60
            go_loopw [14] (fun i wr => ∃ k3 : Nat, k3 ≤ N ∧ i = .int .i64 k3 ∧ Hid (FlAt w.heap.size w wr p f2) ∧ Hid (AtArr 53 w.heap.size wr wo.heap.size 62 (tally T (Lst.take k3))) ∧ Hid (wr.ownsRow w.heap.size 27 1 (.slice An N cn) N (nv Lst))) (fun i _ => N - (intOf i).toNat)
            case atStart => exact ⟨0, by omega, rfl, F5, by rw [List.take_zero, tally_nil]; exact R5, oG⟩
            case round =>
              obtain ⟨k3, hk3, rfl, F6, R6, o6⟩ := hrel
              clear F5 R5 oG
              by_cases hkN : k3 < N
              · obtain ⟨x, hx⟩ : ∃ x, Lst[k3]? = some x := ⟨_, List.getElem?_eq_getElem (by rw [hN2.out]; exact hkN)⟩
                obtain ⟨y, hy, hyk⟩ := M3.out x (List.mem_of_getElem? hx)
                have hc1 : ∃ gb, An = some ⟨gb, 0, none⟩ ∧ ∀ W : World, W.ownsRow w.heap.size 27 1 (.slice An N cn) N (nv Lst) → W.cell? ⟨gb, k3, none⟩ = some (.int .u64 x) := by
                  rcases own_cases o6.out with ⟨_, h2, _⟩ | ⟨gb, h1, _⟩
                  · omega
                  · subst h1
                    refine ⟨gb, rfl, fun W ho => ?_⟩
                    have := ho.cells (g := gb) rfl k3 (.int .u64 x) (by simp [nv, hx])
                    rwa [WideShapes.add_plain, Nat.zero_add] at this
                obtain ⟨gb, rfl, hc1⟩ := hc1
                replace hc1 := hc1 _ o6.out
                obtain ⟨v, hv⟩ : ∃ v, tally T (Lst.take k3) x = v := ⟨_, rfl⟩
                have hvb : v ≤ 61 := by have := tally_le T (Lst.take k3) x (hTl.out x); simp at this; omega
                have hxa : x < 62 := by omega
                have hc2 := R6.out.cell hxa
                have hc3 := R6.out.frozen x
                rw [hv] at hc2
                obtain ⟨m2, hm2⟩ : ∃ m2, 2 * k = m2 := ⟨_, rfl⟩
                have hm3 : 2 * (k : Int) = (m2 : Int) := by omega
                have hxm : x < m2 := by omega
                have hb1 : decide ((m2 : Int) ≤ (x : Int)) = false := decide_eq_false (by omega)
                have hx2 : (x : Int) % 2 = 0 := by omega
                have hxI : (x : Int) < 62 := by omega
                obtain ⟨v1, hv1⟩ : ∃ v1, v + 1 = v1 := ⟨_, rfl⟩
                have hv2 : (v : Int) + 1 = (v1 : Int) := by omega
                have RN : Hid (∀ W, W = wr.setCell ⟨wo.heap.size, x, none⟩ (.int .i64 v1) → AtArr 53 w.heap.size W wo.heap.size 62 (tally T (Lst.take (k3 + 1))) ∧ FlAt w.heap.size w W p f2 ∧ W.ownsRow w.heap.size 27 1 (.slice (some ⟨gb, 0, none⟩) N cn) N (nv Lst)) := Lib.hid (by
                  rintro W rfl
                  refine ⟨?_, F6.out.put R6.out rfl rfl _ _, R6.out.put_other o6.out rfl _ _⟩
                  have := R6.out.put x v1
                  rw [← tally_put T Lst k3 x hx, show tally T (Lst.take k3) x + 1 = v1 from by rw [hv, hv1]]
                  exact this)
                replace hx := Lib.hid hx
                clear hy hm2 hv hv1
                go_wp2_with fail
                go_roundw
                case rel =>
                  obtain ⟨n1, n2, n3⟩ := RN.out _ rfl
                  exact ⟨k3 + 1, by omega, by go_num, Lib.hid n2, Lib.hid n1, Lib.hid n3⟩
                case measure => simp [intOf]; omega
              · have hk3' : k3 = N := by omega
                subst hk3'
                have e : Lst.take k3 = Lst := List.take_of_length_le (by rw [hN2.out]; exact Nat.le_refl _)
                rw [e] at R6
                replace e := Lib.hid e
                go_wp2_with fail
                go_roundw
                case rel => exact ⟨k2 + 1, f2, keep2, tally T Lst, by omega, by go_num, Lib.hid ⟨E2.out, T2.out, F6.out, R6.out⟩⟩
                case measure => simp [intOf]; omega
        · have hk2' : k2 = n := by omega
          subst hk2'
          have hE := HS.out.ev
          have hT := HS.out.told
          have hF := HS.out.fl
          have hR := HS.out.arr
          clear HS
          obtain ⟨lf, hlf⟩ : ∃ lf : Nat → Nat, (fun j => ((List.range j).filter keep).length) = lf := ⟨_, rfl⟩
          have l0 : lf 0 = 0 := by rw [← hlf]; rfl
          have ls1 : ∀ j, keep j = true → lf (j + 1) = lf j + 1 := fun j h => by rw [← hlf]; simp [List.range_succ, h]
          have ls0 : ∀ j, keep j = false → lf (j + 1) = lf j := fun j h => by rw [← hlf]; simp [List.range_succ, h]
          have lle : ∀ j, lf j ≤ j := fun j => by rw [← hlf]; have := List.length_filter_le keep (List.range j); simpa using this
          have lend : f.l.length = lf k := by rw [← hlf]; exact hE.len
          have L := Lib.hid (⟨ls1, ls0, lle, lend⟩ : (∀ j, keep j = true → lf (j + 1) = lf j + 1) ∧ (∀ j, keep j = false → lf (j + 1) = lf j) ∧ (∀ j, lf j ≤ j) ∧ f.l.length = lf k)
          replace hE := Lib.hid hE
          replace hT := Lib.hid hT
          replace hF := Lib.hid hF
          replace hR := Lib.hid hR
          clear ls1 ls0 lle lend hlf
          go_wp2_with fail
          go_loopw [15, 16] (fun v i wr => ∃ (j l : Nat), j ≤ k ∧ i = .int .i64 j ∧ v = .int .i64 l ∧ Hid (lf j = l) ∧ Hid (FlAt w.heap.size w wr p f) ∧ Hid (AtArr 53 w.heap.size wr wo.heap.size 62 T)) (fun _ i _ => k - (intOf i).toNat)
          case atStart => exact ⟨0, 0, by omega, rfl, rfl, Lib.hid l0, hF, hR⟩
          case round =>
            clear hF hR l0
            obtain ⟨j, l, hj, rfl, rfl, hl, hF, hR⟩ := hrel
            by_cases hjk : j < k
            · obtain ⟨j2, hj2⟩ : ∃ j2, 2 * j = j2 := ⟨_, rfl⟩
              have hj3 : 2 * (j : Int) = (j2 : Int) := by omega
              have hage : Hid (fage f j2 = if keep j = true then some j else none) := Lib.hid (by rw [← hj2]; exact hE.out.age j hjk)
              have htl : Hid (T j2 = if keep j = true then 0 else 1) := Lib.hid (by rw [← hj2]; exact told_even hT.out j hjk)
              have hja : j2 < 62 := by omega
              have hjI : (j2 : Int) < 62 := by omega
              have hlb : l ≤ j := by rw [← hl.out]; exact L.out.2.2.1 j
              clear hj2
              cases hkeep : keep j
              · have c := fun (W : World) (h : AtArr 53 w.heap.size W wo.heap.size 62 T) => h.cell hja
                rw [htl.out, hkeep] at c
                have hl2 := L.out.2.1 j hkeep
                rw [hl.out] at hl2
                replace hl2 := Lib.hid hl2
                replace c := Lib.hid c
                have a1 : Hid ((fage f j2).getD 0 = 0 ∧ (fage f j2).isSome = false) := Lib.hid (by rw [hage.out, hkeep]; exact ⟨rfl, rfl⟩)
                replace hkeep := Lib.hid hkeep
                go_wp2_with fail
                refine (age_at 0 false hF.out j2 a1.out.1 a1.out.2).mono ?_
                rintro e w2 ⟨rfl, F2, B2⟩
                have R2 : AtArr 53 w.heap.size w2 wo.heap.size 62 T := bel_own B2 hR.out
                have hc := c.out w2 R2
                replace R2 := Lib.hid R2
                replace F2 := Lib.hid F2
                clear B2 hF hR c
                simp only [if_false, Bool.false_eq_true] at hc
                go_wp2_with fail
                go_roundw
                case rel => exact ⟨j + 1, l, by omega, by go_num, rfl, hl2, F2, R2⟩
                case measure => simp [intOf]; omega
              · have c := fun (W : World) (h : AtArr 53 w.heap.size W wo.heap.size 62 T) => h.cell hja
                rw [htl.out, hkeep] at c
                have hl2 := L.out.1 j hkeep
                rw [hl.out] at hl2
                replace hl2 := Lib.hid hl2
                replace c := Lib.hid c
                have a1 : Hid ((fage f j2).getD 0 = j ∧ (fage f j2).isSome = true) := Lib.hid (by rw [hage.out, hkeep]; exact ⟨rfl, rfl⟩)
                replace hkeep := Lib.hid hkeep
                go_wp2_with fail
                refine (age_at j true hF.out j2 a1.out.1 a1.out.2).mono ?_
                rintro e w2 ⟨rfl, F2, B2⟩
                have R2 : AtArr 53 w.heap.size w2 wo.heap.size 62 T := bel_own B2 hR.out
                have hc := c.out w2 R2
                replace R2 := Lib.hid R2
                replace F2 := Lib.hid F2
                clear B2 hF hR c
                simp only [if_true] at hc
                go_wp2_with fail
                go_roundw
                case rel => exact ⟨j + 1, l + 1, by omega, by go_num, by go_num, hl2, F2, R2⟩
                case measure => simp [intOf]; omega
            · have hj' : j = k := by omega
              subst hj'
              have he : f.l.length = l := by rw [L.out.2.2.2, hl.out]
              replace he := Lib.hid he
              have hll : ((l : Int) == (l : Int)) = true := by simp
              go_wp2_with fail
              refine (under_at l hF.out he.out).mono ?_
              rintro e w3 ⟨rfl, rfl⟩
              go_wp2_with fail
              refine (awake_any _).mono ?_
              rintro e wf ⟨rfl, hbf⟩
              go_wp2_with fail
              go_ret
              exact ⟨rfl, hF.out.bl.trans (hbf.mono hF.out.bl.size)⟩

set_option maxHeartbeats 2000000 in
theorem once_zero (many looks : Int) (A : Option Addr) (cap n : Nat) (w : World) (hn40 : n ≤ 40) (L1 : ∀ w : World, Calls Try.prog 8 #[.int .i64 many, .int .i64 (31 : Nat)] w fun e w' => e = .returned (.int .i64 (0 : Nat)) ∧ w = w') :
    Calls Try.prog 6 #[.int .i64 many, .slice A n cap, .int .i64 looks] w fun e w' => e = .returned (.bool true) ∧ Below w.heap.size w w' := by
  have b2 : decide ((40 : Int) < (n : Int)) = false := decide_eq_false (by omega)
  replace L1 := Lib.hid L1
  rcases Nat.eq_zero_or_pos n with h0 | h0
  · subst h0
    go_enter Try.func6, Try.ntmps6
    go_wp2_with fail
    refine (L1.out _).mono ?_
    rintro e w1 ⟨rfl, rfl⟩
    clear L1
    go_wp2_with fail
    refine (new_at w.heap.size w w (Below.refl _ w) (Nat.le_refl _)).mono ?_
    rintro e w1 ⟨p, rfl, H1, -⟩
    replace H1 := Lib.hid H1
    go_wp2_with fail
    refine wp_loop_rounds 1 ?_; rw [rounds_succ]
    go_wp2_with fail
    refine wp_loop_rounds 1 ?_; rw [rounds_succ]
    go_wp2_with fail
    refine wp_loop_rounds 1 ?_; rw [rounds_succ]
    go_wp2_with fail
    refine (under_at 0 (H1.out.alloc _) rfl).mono ?_
    rintro e w3 ⟨rfl, rfl⟩
    go_wp2_with fail
    refine (awake_any _).mono ?_
    rintro e wf ⟨rfl, hbf⟩
    go_wp2_with fail
    go_ret
    exact ⟨rfl, (H1.out.alloc _).bl.trans (hbf.mono (H1.out.alloc _).bl.size)⟩
  · go_enter Try.func6, Try.ntmps6
    go_wp2_with fail
    refine (L1.out _).mono ?_
    rintro e w1 ⟨rfl, rfl⟩
    clear L1
    go_wp2_with fail
    refine (new_at w.heap.size w w (Below.refl _ w) (Nat.le_refl _)).mono ?_
    rintro e w1 ⟨p, rfl, H1, -⟩
    replace H1 := Lib.hid H1
    go_wp2_with fail
    refine wp_loop_rounds 1 ?_; rw [rounds_succ]
    go_wp2_with fail
    refine wp_loop_rounds 1 ?_; rw [rounds_succ]
    go_wp2_with fail
    refine wp_loop_rounds 1 ?_; rw [rounds_succ]
    go_wp2_with fail
    refine (under_at 0 (H1.out.alloc _) rfl).mono ?_
    rintro e w3 ⟨rfl, rfl⟩
    go_wp2_with fail
    refine (awake_any _).mono ?_
    rintro e wf ⟨rfl, hbf⟩
    go_wp2_with fail
    go_ret
    exact ⟨rfl, (H1.out.alloc _).bl.trans (hbf.mono (H1.out.alloc _).bl.size)⟩

set_option maxHeartbeats 2000000 in
theorem once_any (many looks : Int) (cs : List Int) (A : Option Addr) (cap : Nat) (w : World) (hr : Rd w A (cs.map (Value.int .i64))) (hc : cs.length ≤ 9223372036854775807) :
    Calls Try.prog 6 #[.int .i64 many, .slice A cs.length cap, .int .i64 looks] w fun e w' => e = .returned (.bool true) ∧ Below w.heap.size w w' := by
  obtain ⟨n, hn⟩ : ∃ n, cs.length = n := ⟨_, rfl⟩
  rw [hn] at hc ⊢
  obtain ⟨m, hm, L1⟩ := low_ex many 31 (by omega) (by omega)
  by_cases h40 : n ≤ 40
  · rcases Nat.eq_zero_or_pos m with h0 | h0
    · subst h0
      exact once_zero many looks A cap n w h40 L1
    · exact once_in many looks cs A cap n w hn hr h40 m hm L1 h0
  · have b2 : decide ((40 : Int) < (n : Int)) = true := decide_eq_true (by omega)
    replace L1 := Lib.hid L1
    clear hn hr
    go_enter Try.func6, Try.ntmps6
    go_wp2_with fail
    refine (L1.out _).mono ?_
    rintro e w1 ⟨rfl, rfl⟩
    go_wp2_with fail
    refine (awake_any _).mono ?_
    rintro e wf ⟨rfl, hbf⟩
    go_wp2_with fail
    go_ret
    exact ⟨rfl, hbf⟩
end Go.Proofs.Ytifigmhecgbfoaa
