/- FlightGaps: it is true at every input. -/
import Derived.Test.YtifigmhecgbfoaaFlP
import Derived.Test.YtifigmhecgbfoaaLow
namespace Go.Proofs.Ytifigmhecgbfoaa
open Go.RowKit

theorem gapF_zero : fnew = gapF [] := rfl
theorem grown_below {B : Nat} {a w w' : World} {b : Nat} {e : TypeId} {s : Nat} {v : Value} {n : Nat} {xs : List Value} (hb : Below B a w) (hB : B ≤ w.heap.size) (ho : w.ownsRow b e s v n xs) (hb0 : B ≤ b) {o : Obj} (hg : (w.alloc o).grownBy w' v.ownBlock) : Below B a w' :=
  Fr.under hb hB (((Fr.refl (fun k => v.ownBlock = some k) w).alloc o).grown hg (fun _ hk _ => hk)) (fun k hk _ => Nat.le_trans hb0 (ho.lt k hk).1)
theorem bel_own {w w' : World} {b : Nat} {e : TypeId} {s : Nat} {v : Value} {n : Nat} {xs : List Value} (h : Below w.heap.size w w') (ho : w.ownsRow b e s v n xs) : w'.ownsRow b e s v n xs := own_fr ho (Fr.of_below h NoS) (fun _ _ x => x)

theorem samen_eq (l : List Nat) (A1 A2 : Option Addr) (c1 c2 : Nat) (w : World) (h1 : Rd w A1 (nv l)) (h2 : Rd w A2 (nv l)) (hl : l.length ≤ 140737488355328) :
    Calls Try.prog 12 #[.slice A1 l.length c1, .slice A2 l.length c2] w fun e w' => e = .returned (.bool true) ∧ Still w w' :=
  (still_of (samen_any l l A1 A2 c1 c2 w h1 h2 hl hl)).mono fun e w' ⟨he, hs⟩ => ⟨by rw [he, decide_eq_true rfl], hs⟩

set_option maxRecDepth 100000 in
set_option maxHeartbeats 4000000 in
theorem gaps_in (gs : List Int) (A : Option Addr) (cap n : Nat) (which : Int) (w : World) (hn : gs.length = n) (hr : Rd w A (gs.map (Value.int .i64))) (h0 : 0 < n) (h12 : n ≤ 12) :
    Calls Try.prog 4 #[.slice A n cap, .int .i64 which] w fun e w' => e = .returned (.bool true) ∧ Below w.heap.size w w' := by
  have b1 : ((n : Int) == 0) = false := by rw [beq_eq_false_iff_ne]; omega
  have b2 : decide ((12 : Int) < (n : Int)) = false := decide_eq_false (by omega)
  have HR := Lib.hid hr
  replace hn := Lib.hid hn
  clear hr
  go_enter Try.func4, Try.ntmps4
  go_wp2_with fail
  refine (new_at w.heap.size w w (Below.refl _ w) (Nat.le_refl _)).mono ?_
  rintro e w1 ⟨p, rfl, H1, -⟩
  rw [gapF_zero] at H1
  replace H1 := Lib.hid H1
  go_wp2_with fail
  clear b1 b2
  go_loopw [6, 7, 8] (fun v x i wr => ∃ (k m : Nat) (ns : List Nat), k ≤ n ∧ i = .int .i64 k ∧ x = .int .u64 m ∧ ∃ Ao c, v = .slice Ao k c ∧ Hid (Gp ns k m) ∧ Hid (wr.ownsRow w.heap.size 27 1 (.slice Ao k c) k (nv ns)) ∧ Hid (FlAt w.heap.size w wr p (gapF ns))) (fun _ _ i _ => n - (intOf i).toNat)
  case atStart => exact ⟨0, 0, [], by omega, rfl, rfl, none, 0, rfl, Lib.hid Gp.zero, Lib.hid (World.ownsRow_nil _ _ _ _), H1⟩
  case round =>
    clear H1
    obtain ⟨k, m, ns, hk, rfl, rfl, Ao, c, rfl, HG, HO, H⟩ := hrel
    by_cases hkn : k < n
    · obtain ⟨b, off, rfl, hcell⟩ := (HR.out.below H.out.bl).at_ (k := k) (by simp; have := hn.out; omega)
      rw [List.getElem_map] at hcell
      obtain ⟨x, hx⟩ : ∃ x, gs[k]'(by have := hn.out; omega) = x := ⟨_, rfl⟩
      rw [hx] at hcell
      obtain ⟨g, hg, L⟩ := low_ex x 4 (by omega) (by omega)
      replace L := Lib.hid L
      obtain ⟨N, hN⟩ : ∃ N : Nat, m + 1 + g = N := ⟨_, rfl⟩
      have hbm : m ≤ 4 * k := HG.out.bd
      have hN1 : (m : Int) + 1 + (g : Int) = (N : Int) := by omega
      have HG2 : Hid (Gp (ns ++ [N]) (k + 1) N) := Lib.hid (by rw [← hN]; exact HG.out.next hg)
      have HF : Hid (fsent (gapF ns) N 5 true = gapF (ns ++ [N])) := Lib.hid (gapF_snoc ns N)
      have HK : Hid (fsentok (gapF ns) N 5 = true) := Lib.hid (by rw [← hN]; exact HG.out.ok (by omega) hg)
      have HL : Hid ((gapF ns).l.length < 100000) := Lib.hid (by have := HG.out.len; simp [gapF]; omega)
      have hB : Hid (w.heap.size ≤ wr.heap.size) := Lib.hid (by obtain ⟨_, _, _, _, _, x⟩ := H.out; exact x)
      clear hx hN
      go_wp2_with fail
      refine (L.out _).mono ?_
      rintro e w2 ⟨rfl, rfl⟩
      clear L
      go_wp2_with (at_builtin; refine wpList_app _ rfl _ _ 25 rfl w.heap.size 27 (.int .u64 0) 8 infoU Try.underlying25 rfl (.slice Ao k c) k (nv ns) rfl (HO.out.alloc _) _ 1 _ [.int .u64 N] rfl rfl (Rd.fresh_mark _ [.int .u64 N] _ _) (one_int _ _) (by unfold maxLen; omega) (by omega) (by have := hB.out; simp; omega) ?_; intro A' c' w3 ho3 hg3 _; have H3 := Lib.hid (H.out.grown (Nat.le_refl _) HO.out rfl rfl hg3); replace ho3 := Lib.hid ho3; clear H HO hg3)
      refine (sent_at (gapF (ns ++ [N])) H3.out N 5 true HL.out (by omega) HK.out HF.out).mono ?_
      rintro e w4 ⟨rfl, H4, K4⟩
      have O4 := Lib.hid (K4.own ho3.out rfl rfl)
      replace H4 := Lib.hid H4
      clear H3 ho3 K4
      go_wp2_with fail
      go_roundw
      case rel => exact ⟨k + 1, N, ns ++ [N], by omega, by go_num, rfl, A', c', rfl, HG2, by rw [nv_append]; exact O4, H4⟩
      case measure => simp [intOf]; omega
    · have hk' : k = n := by omega
      subst hk'
      have hlen : ns.length = k := HG.out.len
      obtain ⟨j, hj, L⟩ := low_ex which k (by omega) (by omega)
      replace L := Lib.hid L
      obtain ⟨t, ht⟩ : ∃ t, ns[j]? = some t := ⟨_, List.getElem?_eq_getElem (by omega)⟩
      have HT : Hid (t ∈ ns) := Lib.hid (List.mem_of_getElem? ht)
      have htb := HG.out.le t HT.out
      have hmb := HG.out.bd
      have hsum := gap3_len HG.out HT.out
      have hWl := gapW_len ns t
      obtain ⟨W, hW⟩ : ∃ W, gapW ns t = W := ⟨_, rfl⟩
      obtain ⟨u, hu⟩ : ∃ u, (gap3 ns t).l.length = u := ⟨_, rfl⟩
      rw [hW] at hsum hWl
      rw [hu] at hsum
      obtain ⟨n1, hn1⟩ : ∃ n1, 1 + n1 = k := ⟨k - 1, by omega⟩
      have hs1 : (k : Int) - 1 = (n1 : Int) := by omega
      have hs2 : (n1 : Int) - (W.length : Int) = (u : Int) := by omega
      have hu12 : u ≤ 12 := by omega
      have hn12 : n1 ≤ 12 := by omega
      have htk : t ≤ 48 := by omega
      have hWs : W.length ≤ 12 := by omega
      have huu : ((u : Int) == (u : Int)) = true := by simp
      have htt : ((t : Int) == (t : Int)) = true := by simp
      have HC : Hid (∀ wr2 : World, Rd wr2 Ao (nv ns) → ∃ b, Ao = some ⟨b, 0, none⟩ ∧ wr2.cell? ⟨b, j, none⟩ = some (.int .u64 t)) := Lib.hid (fun wr2 hr2 => by
        obtain ⟨b, off, e, hcell⟩ := hr2 (by simp [nv]; omega)
        replace hcell := hcell j (.int .u64 t) (by simp [nv, ht])
        rcases own_cases HO.out with ⟨h1, _⟩ | ⟨g, h1, _⟩
        · rw [h1] at e; cases e
        · rw [h1] at e; injection e with e; injection e with e1 e2
          subst e1 e2
          refine ⟨_, h1, ?_⟩
          simpa using hcell)
      obtain ⟨q1, q2⟩ := gap_none ns
      replace q1 := Lib.hid q1
      replace q2 := Lib.hid q2
      replace hW := Lib.hid hW
      replace hu := Lib.hid hu
      replace ht := Lib.hid ht
      replace hlen := Lib.hid hlen
      clear hsum hn1
      go_wp2_with fail
      refine (lost_at (gapF ns) [] H.out 5 1000 (by decide) q1.out q2.out).mono ?_
      rintro e w2 ⟨A2, c2, rfl, -, H2, K2⟩
      have O2 := Lib.hid (K2.own HO.out rfl rfl)
      replace H2 := Lib.hid H2
      obtain ⟨gb, rfl, hcell⟩ := HC.out w2 (Rd.of_own O2.out)
      clear H HO K2 HC q1 q2
      go_wp2_with fail
      refine (L.out _).mono ?_
      rintro e w3 ⟨rfl, rfl⟩
      clear L
      go_wp2_with fail
      refine (came_lit (gap2 ns t) [t] H2.out t t _ (gap_good HG.out HT.out) (gap_one HG.out HT.out) rfl).mono ?_
      rintro e w4 ⟨A4, c4, rfl, o4, H4, K4⟩
      have O4 := Lib.hid (K4.own O2.out rfl rfl)
      replace H4 := Lib.hid H4
      replace o4 := Lib.hid o4
      clear H2 O2 K4 hcell
      go_wp2_with fail
      have HB4 : Hid (w.heap.size ≤ w4.heap.size) := Lib.hid (by obtain ⟨_, _, _, _, _, x⟩ := H4.out; exact x)
      go_loopw [12, 13] (fun v i wr => ∃ k2 : Nat, k2 ≤ k ∧ i = .int .i64 k2 ∧ ∃ A c, v = .slice A (gapW (ns.take k2) t).length c ∧ Hid (wr.ownsRow w4.heap.size 27 1 (.slice A (gapW (ns.take k2) t).length c) (gapW (ns.take k2) t).length (nv (gapW (ns.take k2) t))) ∧ Hid (Below w4.heap.size w4 wr)) (fun _ i _ => k - (intOf i).toNat)
      case atStart => exact ⟨0, by omega, rfl, none, 0, rfl, Lib.hid (World.ownsRow_nil _ _ _ _), Lib.hid (Below.refl _ _)⟩
      case round =>
        obtain ⟨k2, hk2, rfl, A5, c5, rfl, o5, hb5⟩ := hrel
        by_cases hkl : k2 < k
        · obtain ⟨x, hx⟩ : ∃ x, ns[k2]? = some x := ⟨_, List.getElem?_eq_getElem (by rw [hlen.out]; exact hkl)⟩
          obtain ⟨hx1, hx2⟩ := List.getElem?_eq_some_iff.1 hx
          have hcell : wr.cell? ⟨gb, k2, none⟩ = some (.int .u64 x) := by
            have := (bel_own hb5.out O4.out).cells (g := gb) rfl k2 (.int .u64 x) (by simp [nv, hx])
            rwa [WideShapes.add_plain, Nat.zero_add] at this
          have hxb : x ≤ 48 := by have := HG.out.le x (List.mem_of_getElem? hx); omega
          have hl5 : (gapW (ns.take k2) t).length ≤ 12 := by have := gapW_len (ns.take k2) t; simp at this; omega
          have hb4 : w4.heap.size ≤ wr.heap.size := hb5.out.size
          by_cases hxt : x + 3 ≤ t
          · have hW2 : Hid (gapW (ns.take (k2 + 1)) t = gapW (ns.take k2) t ++ [x]) := Lib.hid (by rw [gapW_yes ns t k2 hx1 (by rw [hx2]; exact hxt), hx2])
            have hd : decide ((x : Int) + 3 ≤ (t : Int)) = true := decide_eq_true (by omega)
            replace hx := Lib.hid hx
            clear hx2 hxt
            go_wp2_with (at_builtin; refine wpList_app _ rfl _ _ 25 rfl w4.heap.size 27 (.int .u64 0) 8 infoU Try.underlying25 rfl (.slice A5 (gapW (ns.take k2) t).length c5) (gapW (ns.take k2) t).length (nv (gapW (ns.take k2) t)) rfl (o5.out.alloc _) _ 1 _ [.int .u64 x] rfl rfl (Rd.fresh_mark _ [.int .u64 x] _ _) (one_int _ _) (by unfold maxLen; omega) (by omega) (by simp; omega) ?_; intro A' c' w6 ho6 hg6 _; have hb6 := Lib.hid (grown_below hb5.out hb4 o5.out (Nat.le_refl _) hg6); replace ho6 := Lib.hid ho6; clear o5 hb5 hg6)
            go_roundw
            case rel =>
              refine ⟨k2 + 1, by omega, by go_num, A', c', ?_, ?_, hb6⟩
              · rw [hW2.out, List.length_append]; rfl
              · have := ho6.out
                rw [hW2.out, List.length_append, nv_append]
                exact Lib.hid this
            case measure => simp [intOf]; omega
          · have hW2 : Hid (gapW (ns.take (k2 + 1)) t = gapW (ns.take k2) t) := Lib.hid (gapW_no ns t k2 hx1 (by rw [hx2]; exact hxt))
            have hd : decide ((x : Int) + 3 ≤ (t : Int)) = false := decide_eq_false (by omega)
            replace hx := Lib.hid hx
            clear hx2 hxt
            go_wp2_with fail
            go_roundw
            case rel => exact ⟨k2 + 1, by omega, by go_num, A5, c5, by rw [hW2.out], by rw [hW2.out]; exact o5, hb5⟩
            case measure => simp [intOf]; omega
        · have hk2' : k2 = k := by omega
          subst hk2'
          have e0 : gapW (ns.take k2) t = W := by rw [← hW.out, List.take_of_length_le (by rw [hlen.out]; exact Nat.le_refl _)]
          rw [e0] at o5 ⊢
          replace H4 := Lib.hid (H4.out.below hb5.out)
          replace o4 := Lib.hid (bel_own hb5.out o4.out)
          replace o5 := Lib.hid (own_base (base2 := w.heap.size) o5.out (fun b hb => Nat.le_trans HB4.out (o5.out.lt b hb).1))
          obtain ⟨l1, l2⟩ := gap2_st ns t
          have l3 : fnums (gap2 ns t) (qlost (gap2 ns t).came (gap2 ns t).largest 5 (max 1000 1)) = W := by rw [l1, l2, gap2_q]; exact hW.out
          have l4 : ftake (gap2 ns t) (qlost (gap2 ns t).came (gap2 ns t).largest 5 (max 1000 1)) = gap3 ns t := by rw [l1, l2]; rfl
          replace l1 := Lib.hid l1
          replace l2 := Lib.hid l2
          replace l3 := Lib.hid l3
          replace l4 := Lib.hid l4
          clear hkl hb5 O4 e0 HB4
          go_wp2_with fail
          refine (largest_at t true H4.out l2.out l1.out).mono ?_
          rintro e w6 ⟨rfl, S6⟩
          replace H4 := Lib.hid (H4.out.below S6.below)
          replace o4 := Lib.hid (S6.own o4.out)
          replace o5 := Lib.hid (S6.own o5.out)
          clear S6
          go_wp2_with fail
          have R4 := Lib.hid (Rd.of_own o4.out)
          refine (samen_eq [t] _ _ _ _ _ (R4.out.alloc _) (Rd.fresh_mark _ (nv [t]) _ _) (by simp)).mono ?_
          rintro e w7 ⟨rfl, S7⟩
          replace o5 := Lib.hid (S7.own (o5.out.alloc _))
          replace H4 := Lib.hid ((H4.out.alloc _).below S7.below)
          clear S7 o4 R4
          go_wp2_with fail
          refine (lost_at (gap3 ns t) W H4.out 5 1000 (by decide) l3.out l4.out).mono ?_
          rintro e w8 ⟨A8, c8, rfl, o8, H8, K8⟩
          replace o5 := Lib.hid (K8.own o5.out rfl rfl)
          replace H8 := Lib.hid H8
          replace o8 := Lib.hid o8
          clear H4 K8
          have hWb : W.length ≤ 140737488355328 := by omega
          have HS := Lib.hid (samen_eq W A8 A5 c8 c5 w8 (Rd.of_own o8.out) (Rd.of_own o5.out) hWb)
          clear hWb
          go_wp2_with fail
          refine HS.out.mono ?_
          rintro e w9 ⟨rfl, S9⟩
          replace H8 := Lib.hid (H8.out.below S9.below)
          clear S9 HS o8 o5
          go_wp2_with fail
          refine (under_at u H8.out hu.out).mono ?_
          rintro e w10 ⟨rfl, rfl⟩
          go_wp2_with fail
          refine (awake_any _).mono ?_
          rintro e wf ⟨rfl, hbf⟩
          go_wp2_with fail
          go_ret
          exact ⟨rfl, H8.out.bl.trans (hbf.mono H8.out.bl.size)⟩

set_option maxHeartbeats 2000000 in
theorem gaps_any (gs : List Int) (A : Option Addr) (cap : Nat) (which : Int) (w : World) (hr : Rd w A (gs.map (Value.int .i64))) (hc : gs.length ≤ 9223372036854775807) :
    Calls Try.prog 4 #[.slice A gs.length cap, .int .i64 which] w fun e w' => e = .returned (.bool true) ∧ Below w.heap.size w w' := by
  obtain ⟨n, hn⟩ : ∃ n, gs.length = n := ⟨_, rfl⟩
  rw [hn] at hc ⊢
  by_cases h0 : n = 0
  · have b1 : ((n : Int) == 0) = true := by rw [beq_iff_eq]; omega
    replace h0 := Lib.hid h0
    clear hn hr
    go_enter Try.func4, Try.ntmps4
    go_wp2_with fail
    refine (awake_any _).mono ?_
    rintro e wf ⟨rfl, hbf⟩
    go_wp2_with fail
    go_ret
    exact ⟨rfl, hbf⟩
  · by_cases h12 : n ≤ 12
    · exact gaps_in gs A cap n which w hn hr (by omega) h12
    · have b1 : ((n : Int) == 0) = false := by rw [beq_eq_false_iff_ne]; omega
      have b2 : decide ((12 : Int) < (n : Int)) = true := decide_eq_true (by omega)
      clear hn hr
      go_enter Try.func4, Try.ntmps4
      go_wp2_with fail
      refine (awake_any _).mono ?_
      rintro e wf ⟨rfl, hbf⟩
      go_wp2_with fail
      go_ret
      exact ⟨rfl, hbf⟩
end Go.Proofs.Ytifigmhecgbfoaa
