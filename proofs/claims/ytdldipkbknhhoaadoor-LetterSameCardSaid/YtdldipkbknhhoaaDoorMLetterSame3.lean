/- What the proof of LetterSame stands on, part 3: 4 texts of ours, one behind the other. -/
import Derived.OrdersHeld
import Derived.Deep.RegionHeld
import Derived.Test.YtdldipkbknhhoaaDoorMLetterSame0
import Derived.Test.YtdldipkbknhhoaaDoorMLetterSame1
import Derived.Test.YtdldipkbknhhoaaDoorMLetterSame2
/- LetterEdges: it is true at every input. -/
namespace Go.Proofs.YtdldipkbknhhoaaDoor
open Go.RowKit

theorem fput_nil : fput [] = ([0, 0], 0) := by decide +kernel
theorem ltplain_bare (D : List UInt8) (h1 : 1 ≤ D.length) : ltplain [] D = (ltpart 1 [0, 0] ++ ltpart 0 D, 0) := by
  unfold ltplain
  rw [fput_nil, if_neg (by simp), if_neg (by omega)]
theorem ltpart_bare : (ltpart 1 [0, 0]).length = 4 := by decide +kernel
theorem vl_two {n : Int} (h : 64 ≤ n) (h2 : n < 16384) : vl n = 2 := by unfold vl vlen; rw [if_neg (by omega), if_pos h2]; rfl
theorem ltplain_long (D : List UInt8) (h1 : 64 ≤ D.length) (h2 : D.length < 16384) : (ltplain [] D).1.length = 7 + D.length := by
  rw [ltplain_bare D (by omega)]
  show (ltpart 1 [0, 0] ++ ltpart 0 D).length = _
  rw [List.length_append, ltpart_bare]
  unfold ltpart
  rw [List.length_append, List.length_append, vput_length, vput_length, vl_small (by omega), vl_two (by omega) (by omega)]
  omega
theorem edges_E (D : List UInt8) (n : Int) (v : Bool) (hn : bok n = true) (h1 : 64 ≤ D.length) (h2 : D.length < 16384) (hv : decide ((7 : Int) + D.length = n ∨ (7 : Int) + D.length ≤ n - 2) = v) : ltE [] D n = if v then 0 else 4 := by
  have h3 : (ltplain [] D).2 = 0 := by rw [ltplain_bare D (by omega)]
  unfold ltE
  rw [if_neg (by rw [hn]; simp), h3, if_neg (by simp), ltplain_long D h1 h2]
  have e : ltfits ((7 + D.length : Nat) : Int) n = v := by
    unfold ltfits
    rw [← hv]
    congr 1
  rw [e]
  cases v <;> simp
theorem small_E (n : Int) (hn : bok n = true) : ltE [] [1] n = 0 := by
  have h := of_decide_eq_true hn
  rcases h with rfl | rfl | rfl <;> decide +kernel
theorem nil_hs : ∀ f ∈ ([] : List Fd), f.name.size ≤ 1000000 ∧ f.value.size ≤ 1000000 := fun f h => by cases h
set_option maxRecDepth 100000 in
set_option maxHeartbeats 4000000 in
theorem edges_in (a0 a1 : Int) (k j n body : Nat) (w : World) (hbk : BK w) (hn : bok (n : Int) = true) (hj : j < 12) (hb : body + 12 = n + j) (hsh : Op.shift .shl .i64 256 .i64 (k : Int) = pure (.int .i64 (n : Int)))
    (L0 : Hid (∀ W : World, Calls Tryd.prog 18 #[.int .i64 a0, .int .i64 3] W fun e w' => e = .returned (.int .i64 k) ∧ W = w'))
    (L1 : Hid (∀ W : World, Calls Tryd.prog 18 #[.int .i64 a1, .int .i64 12] W fun e w' => e = .returned (.int .i64 j) ∧ W = w')) :
    Calls Tryd.prog 5 #[.int .i64 a0, .int .i64 a1] w fun e w' => e = .returned (.bool true) ∧ Below w.heap.size w w' := by
  have hbd := bok_bd hn
  have hD : (growl body 1).length = body := by simp [growl]
  obtain ⟨v, hv⟩ : ∃ v, decide ((7 : Int) + (growl body 1).length = n ∨ (7 : Int) + (growl body 1).length ≤ n - 2) = v := ⟨_, rfl⟩
  have hE := Lib.hid (edges_E (growl body 1) n v hn (by omega) (by omega) hv)
  have hsm := Lib.hid (small_E n hn)
  rw [hD] at hv
  have GR := Lib.hid (grow_any body 1 w (by omega) (by omega))
  obtain ⟨D, hDD⟩ : ∃ D, growl body 1 = D := ⟨_, rfl⟩
  rw [hDD] at hE GR hD
  have q0 : IntKind.i64.wrap ((n : Int) - 12) = (n : Int) - 12 := by rw [IntKind.wrap_i64]; omega
  have q1 : IntKind.i64.wrap ((n : Int) - 12 + (j : Int)) = (body : Int) := by rw [IntKind.wrap_i64]; omega
  have q2 : IntKind.i64.wrap ((7 : Int) + (body : Int)) = (7 : Int) + (body : Int) := by rw [IntKind.wrap_i64]; omega
  have q3 : IntKind.i64.wrap ((n : Int) - 2) = (n : Int) - 2 := by rw [IntKind.wrap_i64]; omega
  have hbb : body ≤ 1035 := by omega
  replace hb := Lib.hid hb
  replace hD := Lib.hid hD
  replace hn := Lib.hid hn
  replace hv := Lib.hid hv
  clear hDD
  go_enter Tryd.func5, Tryd.ntmps5
  go_wp2_with fail
  refine (L0.out _).mono ?_
  rintro e w' ⟨rfl, rfl⟩
  go_wp2_with fail
  refine (L1.out _).mono ?_
  rintro e w' ⟨rfl, rfl⟩
  go_wp2_with fail
  refine GR.out.mono ?_
  rintro e w1 ⟨X, x, rfl, o1, b1⟩
  have M0 : MR w1 [] D none 0 X body := ⟨Rd.nil _ _, Rd.of_own o1, rfl, hD.out, by omega, by omega, nil_hs⟩
  obtain ⟨g, hg⟩ : ∃ g, w1.heap.size = g := ⟨_, rfl⟩
  obtain ⟨w2, hw2⟩ : ∃ W, w1.alloc (.cells #[.slice none 0 0, .slice X body x] 25) = W := ⟨_, rfl⟩
  have M : Hid (Msg w2 g [] D none 0 0 X body x) := Lib.hid (by rw [← hw2]; exact M0.alloc hg)
  have bb : Hid (Below w.heap.size w w2) := Lib.hid (by rw [← hw2]; exact b1.alloc b1.size _)
  have hbk2 : Hid (BK w2) := Lib.hid (hbk.fr (Fr.of_below bb.out NoS) (fun x => x))
  have x0 := M.out.c0
  have x1 := M.out.c1
  rw [← hw2] at x0 x1
  replace hw2 := Lib.hid hw2
  clear M0 o1 b1 GR hbk L0 L1
  go_wp2_with fail
  rw [hw2.out]
  clear x0 x1
  have x0 := M.out.c0
  have x1 := M.out.c1
  obtain ⟨E, hEE⟩ : ∃ E : Int, (if v then 0 else 4) = E := ⟨_, rfl⟩
  rw [hEE] at hE
  refine (M.out.r.put hbk2.out n E hE.out).mono ?_
  rintro e w3 ⟨R, Y, r, y, rfl, hk, hR, hY, hky, hyy, hk2, b3⟩
  replace M := Lib.hid (M.out.below b3)
  replace hbk2 := Lib.hid (hbk2.out.below b3)
  replace bb := Lib.hid (bb.out.trans (b3.mono bb.out.size))
  replace hY := Lib.hid hY
  replace hk := Lib.hid hk
  replace hR := Lib.hid hR
  replace hEE := Lib.hid hEE
  clear b3 hw2 hg hsh x0 x1
  obtain ⟨g3, hg3⟩ : ∃ g, w3.heap.size = g := ⟨_, rfl⟩
  obtain ⟨w4, hw4⟩ : ∃ W, w3.alloc (.cells #[.int .u8 1] 5) = W := ⟨_, rfl⟩
  have b4 : Below w3.heap.size w3 w4 := by rw [← hw4]; exact (Below.refl _ w3).alloc (Nat.le_refl _) _
  have N4 : Hid (MR w4 [] [1] none 0 (some ⟨g3, 0, none⟩) 1) := Lib.hid ⟨Rd.nil _ _, by rw [← hw4]; exact Rd.freshAt hg3 (bv [1]) 5 rfl, rfl, rfl, by omega, by omega, nil_hs⟩
  replace M := Lib.hid (M.out.below b4)
  replace hbk2 := Lib.hid (hbk2.out.below b4)
  replace bb := Lib.hid (bb.out.trans (b4.mono bb.out.size))
  replace hY := Lib.hid (hY.out.below b4)
  clear b4
  replace hw4 := Lib.hid hw4
  go_wp2_with fail
  rw [hw4.out]
  refine (N4.out.put hbk2.out n 0 hsm.out).mono ?_
  rintro e w5 ⟨R5, Y5, r5, y5, rfl, hk5, hR5, _, _, _, _, b5⟩
  have hr5 : r5 = n := by have := (hR5.2 hsm.out).1; omega
  subst hr5
  replace M := Lib.hid (M.out.below b5)
  replace hbk2 := Lib.hid (hbk2.out.below b5)
  replace bb := Lib.hid (bb.out.trans (b5.mono bb.out.size))
  replace hY := Lib.hid (hY.out.below b5)
  have m0 := M.out.c0
  have m1 := M.out.c1
  clear b5 hR5 hk5 hw4 hg3 N4 hsm
  have t0 : ((r5 : Int) != (r5 : Int)) = false := bne_self_eq_false _
  cases v with
  | false =>
    have hv' := of_decide_eq_false hv.out
    have t1 : ((7 : Int) + (body : Int) != (r5 : Int)) = true := by rw [bne_iff_ne]; omega
    have t2 : decide ((r5 : Int) - 2 < (7 : Int) + (body : Int)) = true := decide_eq_true (by omega)
    have hE4 : E = 4 := hEE.out.symm
    subst hE4
    have hr0 : r = 0 := by rw [← hk.out, hR.out.1 (by rw [hE.out]; decide)]; rfl
    subst hr0
    clear hv hv' hE hR hk hb hn hD hEE hbd hbb hky hk2
    go_wp2_with fail
    refine (awake_any _ hbk2.out).mono ?_
    rintro e w6 ⟨rfl, b6⟩
    go_wp2_with fail
    go_ret
    exact ⟨rfl, bb.out.trans (b6.mono bb.out.size)⟩
  | true =>
    have hv' := of_decide_eq_true hv.out
    have hE0 : E = 0 := hEE.out.symm
    subst hE0
    have hr : r = r5 := by have := (hR.out.2 hE.out).1; have := hk.out; omega
    subst hr
    have hget := Lib.hid (lget_put (by have := hD.out; omega) hE.out hR.out)
    have hgo : Hid (Calls Tryd.prog 14 #[.slice Y r y] w5 (GetTo w5 [] D 0)) := Lib.hid (get_to R Y r y w5 hbk2.out hk.out hY.out hky hyy (by omega) [] D 0 hget.out)
    have tt : Hid ((7 : Int) + (body : Int) = (r : Int) ∨ ((7 : Int) + (body : Int) ≠ (r : Int) ∧ (7 : Int) + (body : Int) ≤ (r : Int) - 2)) := Lib.hid (by omega)
    clear hv hv' hE hR hk hb hn hEE hbd hky hk2 hget hY
    have key : ∃ x1 x2 : Bool, ((7 : Int) + (body : Int) != (r : Int)) = x1 ∧ decide ((r : Int) - 2 < (7 : Int) + (body : Int)) = x2 ∧ (x1 = false ∨ x2 = false) := by
      refine ⟨_, _, rfl, rfl, ?_⟩
      rcases tt.out with h | ⟨_, h⟩
      · exact .inl (by rw [h]; exact bne_self_eq_false _)
      · exact .inr (decide_eq_false (by omega))
    obtain ⟨x1, x2, t1, t2, t3⟩ := key
    have hx : (x1 = false) ∨ (x1 = true ∧ x2 = false) := by cases x1 <;> simp_all
    clear t3 tt
    rcases hx with rfl | ⟨rfl, rfl⟩
    all_goals
      go_wp2_with fail
      refine hgo.out.mono ?_
      rintro e w6 ⟨Z, z, U, u, rfl, hZ, hU, b6⟩
      rw [hD.out]
      simp only [List.length_nil]
      have Q0 : MR w6 [] D Z 0 U body := ⟨hZ, hU, rfl, hD.out, by omega, by omega, nil_hs⟩
      replace M := Lib.hid (M.out.below b6)
      replace hbk2 := Lib.hid (hbk2.out.below b6)
      replace bb := Lib.hid (bb.out.trans (b6.mono bb.out.size))
      obtain ⟨q, hq⟩ : ∃ q, w6.heap.size = q := ⟨_, rfl⟩
      obtain ⟨w7, hw7⟩ : ∃ W, w6.alloc (.cells #[.slice Z 0 z, .slice U body u] 25) = W := ⟨_, rfl⟩
      have b7 : Below w6.heap.size w6 w7 := by rw [← hw7]; exact (Below.refl _ w6).alloc (Nat.le_refl _) _
      have N7 : Hid (Msg w7 q [] D Z 0 z U body u) := Lib.hid (by rw [← hw7]; exact Q0.alloc hq)
      replace M := Lib.hid (M.out.below b7)
      replace hbk2 := Lib.hid (hbk2.out.below b7)
      replace bb := Lib.hid (bb.out.trans (b7.mono bb.out.size))
      clear m0 m1 hZ hU Q0 b6 b7 hgo
      have m0 := M.out.c0
      have m1 := M.out.c1
      have n0 := N7.out.c0
      have n1 := N7.out.c1
      rw [← hw7] at m0 m1 n0 n1
      have t5 : ((r : Int) == (r : Int)) = true := beq_self_eq_true _
      replace hw7 := Lib.hid hw7
      go_wp2_with fail
      rw [hw7.out]
      refine (N7.out.r.same M.out.r true (by simp)).mono ?_
      rintro e w8 ⟨rfl, b8⟩
      replace hbk2 := Lib.hid (hbk2.out.below b8)
      replace bb := Lib.hid (bb.out.trans (b8.mono bb.out.size))
      clear m0 m1 n0 n1 b8 N7
      go_wp2_with fail
      refine (awake_any _ hbk2.out).mono ?_
      rintro e w9 ⟨rfl, b9⟩
      go_wp2_with fail
      go_ret
      exact ⟨rfl, bb.out.trans (b9.mono bb.out.size)⟩
theorem edges_any (a0 a1 : Int) (w : World) (hbk : BK w) :
    Calls Tryd.prog 5 #[.int .i64 a0, .int .i64 a1] w fun e w' => e = .returned (.bool true) ∧ Below w.heap.size w w' := by
  obtain ⟨k, hk, L0⟩ := low_ex a0 3 (by omega) (by omega)
  obtain ⟨j, hj, L1⟩ := low_ex a1 12 (by omega) (by omega)
  rcases (by omega : k = 0 ∨ k = 1 ∨ k = 2) with rfl | rfl | rfl
  · exact edges_in a0 a1 0 j 256 (244 + j) w hbk (by decide) hj (by omega) rfl (Lib.hid L0) (Lib.hid L1)
  · exact edges_in a0 a1 1 j 512 (500 + j) w hbk (by decide) hj (by omega) rfl (Lib.hid L0) (Lib.hid L1)
  · exact edges_in a0 a1 2 j 1024 (1012 + j) w hbk (by decide) hj (by omega) rfl (Lib.hid L0) (Lib.hid L1)
end Go.Proofs.YtdldipkbknhhoaaDoor

/- Grow by any number: some bytes, as many as were asked for. -/
namespace Go.Proofs.YtdldipkbknhhoaaDoor
open Go.RowKit

theorem u8_byte (y : Int) (h0 : 0 ≤ y) (h1 : y ≤ 255) : ∃ x : UInt8, (x.toNat : Int) = y := ⟨UInt8.ofNat y.toNat, by rw [UInt8.toNat_ofNat']; omega⟩
set_option maxHeartbeats 1000000 in
theorem growx_any (n : Nat) (b : Int) (w : World) (hn : n ≤ 1000000) :
    Calls Tryd.prog 19 #[.int .i64 n, .int .i64 b] w (fun e w' => ∃ D : List UInt8, D.length = n ∧ RetS 5 w n (bv D) e w') := by
  obtain ⟨i0, hi, hz0, hz1, hz2⟩ := info_parts infoB
  obtain ⟨t, ht⟩ : ∃ t, IntKind.i64.wrap (b * 31) = t := ⟨_, rfl⟩
  go_enter Tryd.func19, Tryd.ntmps19
  go_wp2_with (at_make; refine Hid.out ?_)
  refine Lib.hid ?_
  refine (wpList_make_full _ rfl _ _ 23 rfl w.heap.size 5 i0 (.int .u8 0) 1 Tryd.underlying23 hi hz0 hz1 _ _ _ _ n rfl rfl rfl rfl (by rw [hz2]; omega) (by unfold maxLen; omega) (Nat.le_refl _) ?_)
  intro w1 hown1 hgrow1
  have hb1 : Below w.heap.size w w1 := (Below.refl _ _).grown hgrow1 (Nat.le_refl _) (by simp)
  have ho1 : w1.ownsRow w.heap.size 5 1 (.slice (some ⟨w.heap.size, 0, none⟩) n n) n (bv (gpart n 0 0)) := by
    rw [gpart_zero, bv, List.map_replicate]; have := hown1; rw [show (Value.int .u8 0).cells = #[Value.int .u8 0] from rfl, Nat.mul_one, toList_madeCells_one] at this; exact this
  have hl1 : (gpart n 0 0).length = n := by simp [gpart]
  replace ho1 := Lib.hid ho1
  replace hl1 := Lib.hid hl1
  clear hown1
  go_wp2
  go_loopw [6] (fun i wr => ∃ (k : Nat) (l : List UInt8), k ≤ n ∧ i = .int .i64 k ∧ Hid (l.length = n) ∧ wr.ownsRow w.heap.size 5 1 (.slice (some ⟨w.heap.size, 0, none⟩) n n) n (bv l) ∧ Below w.heap.size w wr) (fun i _ => n - (intOf i).toNat)
  case atStart => exact ⟨0, _, by omega, rfl, hl1, ho1.out, hb1⟩
  case round =>
    clear ho1 hl1
    obtain ⟨k, l, hk, rfl, hl, ho, hbr⟩ := hrel
    by_cases hlt : k < n
    · have q1 := ho.frozenAt k
      obtain ⟨t2, ht2⟩ : ∃ t2, IntKind.i64.wrap ((k : Int) * 7 + t) = t2 := ⟨_, rfl⟩
      obtain ⟨t3, ht3⟩ : ∃ t3, IntKind.i64.wrap (t2 + (k : Int) / 13) = t3 := ⟨_, rfl⟩
      obtain ⟨y, hy⟩ : ∃ y, IntKind.u8.wrap t3 = y := ⟨_, rfl⟩
      have hyb : Hid (0 ≤ y ∧ y ≤ 255) := Lib.hid (by rw [← hy, IntKind.wrap_u8]; omega)
      obtain ⟨x, hx⟩ := u8_byte y hyb.out.1 hyb.out.2
      have hset : Hid ((bv l).set k (.int .u8 y) = bv (l.set k x)) := Lib.hid (by rw [bv, bv, List.map_set, hx])
      have hl2 : Hid ((l.set k x).length = n) := Lib.hid (by rw [List.length_set]; exact hl.out)
      have q3 := ho.cellAt k (by omega)
      obtain ⟨v0, hv0⟩ : ∃ v, (bv l)[k]? = some v := ⟨_, List.getElem?_eq_getElem (by rw [bv_length, hl.out]; exact hlt)⟩
      rw [hv0] at q3
      have st := ho.stored k (.int .u8 y)
      have hbr2 : Below w.heap.size w (wr.setCell ⟨w.heap.size, k, none⟩ (.int .u8 y)) := hbr.setCell (Nat.le_refl _) _
      replace st := Lib.hid st
      replace ho := Lib.hid ho
      replace hx := Lib.hid hx
      clear hv0
      go_wp2
      go_roundw
      case rel => exact ⟨k + 1, _, by omega, by go_num, hl2, by rw [← hset.out]; exact st.out.1, hbr2⟩
      case measure => simp [intOf]; omega
    · have : k = n := by omega
      subst this
      go_wp2
      go_ret
      exact ⟨l, hl.out, _, _, rfl, ho, hbr⟩
end Go.Proofs.YtdldipkbknhhoaaDoor

/- LetterSame: in plain Lean. -/
namespace Go.Proofs.YtdldipkbknhhoaaDoor
open Go.RowKit

def s3nl : List ByteArray := [⟨#[120, 45, 97]⟩, ⟨#[58, 112, 97, 116, 104]⟩, ⟨#[101, 116, 97, 103]⟩]
def s3vl : List ByteArray := [⟨#[]⟩, ⟨#[47]⟩, ⟨#[97, 98, 99]⟩]
def s3n (i : Nat) : ByteArray := s3nl.getD i .empty
def s3v (i : Nat) : ByteArray := s3vl.getD i .empty
def cix (g n : Int) : Nat := (low g n).toNat
def sfd (g : Int) : Fd := ⟨s3n (cix g 3), s3v (cix (IntKind.i64.wrap (g.tdiv 3)) 3)⟩
theorem cix_bd (g : Int) (n : Nat) (hn : 1 ≤ n) (hm : n ≤ 4611686018427387904) : cix g n < n ∧ ((cix g n : Nat) : Int) = low g n := by
  have := low_bd g n (by omega) (by omega)
  unfold cix; omega
theorem cix_any (x : Int) (n : Nat) (w : World) (hn : 1 ≤ n) (hm : n ≤ 4611686018427387904) :
    Calls Tryd.prog 18 #[.int .i64 x, .int .i64 n] w fun e w' => e = .returned (.int .i64 (cix x n)) ∧ w = w' := by
  rw [(cix_bd x n hn hm).2]
  exact low_any x n w (by omega) (by omega)
theorem s3_ok : ∀ i, i < 3 → ∀ j, j < 3 → fok ⟨s3n i, s3v j⟩ = true ∧ (s3v j).size ≤ 400 ∧ (s3n i).size ≤ 400 := by decide +kernel
theorem sfd_ok (g : Int) : fok (sfd g) = true ∧ (sfd g).value.size ≤ 400 ∧ (sfd g).name.size ≤ 400 := s3_ok _ (cix_bd g 3 (by omega) (by omega)).1 _ (cix_bd (IntKind.i64.wrap (g.tdiv 3)) 3 (by omega) (by omega)).1
theorem sfds_put (ns : List Int) (h : ns.length ≤ 3) : (fput (ns.map sfd)).2 = 0 := by
  rw [fput_ok (ns.map sfd) (fun f hf => by
    obtain ⟨g, _, rfl⟩ := List.mem_map.1 hf
    exact ⟨(sfd_ok g).1, (sfd_ok g).2.1⟩) (by rw [List.length_map]; omega)]
/-- The buckets; what is wrong at each, where the fields are well. -/
def bkt : Nat → Int | 0 => 256 | 1 => 512 | _ => 1024
theorem bkt_ok (k : Nat) : bok (bkt k) = true := by
  match k with
  | 0 => decide
  | 1 => decide
  | k + 2 => show bok 1024 = true; decide
theorem ltE_two {fs : List Fd} (D : List UInt8) (h : (fput fs).2 = 0) (b : Int) (hb : bok b = true) : ltE fs D b = if ltfits (ltplain fs D).1.length b then 0 else 4 := by
  have h2 : (ltplain fs D).2 = 0 := by unfold ltplain; rw [if_neg (by rw [h]; simp)]
  unfold ltE
  rw [if_neg (by rw [hb]; simp), h2, if_neg (by simp)]
  cases ltfits (ltplain fs D).1.length b <;> simp
/-- The first bucket that fits, of the first k. -/
def fnd (fs : List Fd) (D : List UInt8) : Nat → Int
  | 0 => 0
  | k + 1 => if fnd fs D k ≠ 0 then fnd fs D k else if ltE fs D (bkt k) = 0 then bkt k else 0
theorem fnd_least {fs : List Fd} (D : List UInt8) (h : (fput fs).2 = 0) : fnd fs D 3 = ltleast fs D := by
  have h2 : (ltplain fs D).2 = 0 := by unfold ltplain; rw [if_neg (by rw [h]; simp)]
  unfold ltleast
  rw [if_neg (by rw [h2]; simp)]
  have e0 := ltE_two D h 256 (by decide)
  have e1 := ltE_two D h 512 (by decide)
  have e2 := ltE_two D h 1024 (by decide)
  simp only [fnd, bkt]
  rw [e0, e1, e2]
  cases ltfits (ltplain fs D).1.length 256 <;> cases ltfits (ltplain fs D).1.length 512 <;> cases ltfits (ltplain fs D).1.length 1024 <;> simp
theorem fnd_yes {fs : List Fd} {D : List UInt8} {k : Nat} (h : ltE fs D (bkt k) = 0) : fnd fs D (k + 1) = if fnd fs D k = 0 then bkt k else fnd fs D k := by
  show (if fnd fs D k ≠ 0 then fnd fs D k else if ltE fs D (bkt k) = 0 then bkt k else 0) = _
  by_cases h0 : fnd fs D k = 0
  · rw [if_neg (by simpa using h0), if_pos h, if_pos h0]
  · rw [if_pos h0, if_neg h0]
theorem fnd_no {fs : List Fd} {D : List UInt8} {k : Nat} (h : ltE fs D (bkt k) = 4) : fnd fs D (k + 1) = fnd fs D k := by
  show (if fnd fs D k ≠ 0 then fnd fs D k else if ltE fs D (bkt k) = 0 then bkt k else 0) = _
  by_cases h0 : fnd fs D k = 0
  · rw [if_neg (by simpa using h0), if_neg (by rw [h]; decide), h0]
  · rw [if_pos h0]
theorem lget_bucket (l : List UInt8) (h : bok l.length = false) : lget l = (([], []), 13) := by unfold lget; rw [if_pos h]
end Go.Proofs.YtdldipkbknhhoaaDoor

/- A region that draws its order, loads cells, makes memory and then stores into those very cells: the loads may be taken first, since the first of the stores (number k) waits for them. Nothing of the program. -/
namespace Go.Proofs.YtdldipkbknhhoaaDoor
open Go.RowKit

section
variable {P : Program} {ops : Array Oper} {Q : Exit → Act → World → Prop} {md : Region.Mode} {S : World → Prop} {k : Nat}

/-- Whatever order is picked, and S holds behind each operation as long as number k has not come up. -/
def KeptTill (P : Program) (md : Region.Mode) (ops : Array Oper) (Q : Exit → Act → World → Prop) (k : Nat) (S : World → Prop) : Nat → Array Bool → Act → World → Prop
  | 0, listed, a, w => Region.ready md ops listed = [] ∧ Q .normal a w
  | fuel + 1, listed, a, w =>
    (Region.ready md ops listed = [] → Q .normal a w) ∧
    ∀ i ∈ Region.ready md ops listed, wpOp P ops Q i (fun a' w' => ((listed.setIfInBounds i true).getD k true = false → S w') ∧ KeptTill P md ops Q k S fuel (listed.setIfInBounds i true) a' w') a w

theorem KeptTill.any : ∀ (fuel : Nat) (listed : Array Bool) (a : Act) (w : World), KeptTill P md ops Q k S fuel listed a w → wpAny P md ops Q fuel listed a w
  | 0, _, _, _, h => h
  | fuel + 1, _, _, _, h => ⟨h.1, fun i hi => wpOp_mono (fun a' w' h' => KeptTill.any fuel _ a' w' h'.2) (h.2 i hi)⟩

theorem KeptTill.first {i : Nat} {oi : Oper} {v : Value} (hi : ops[i]? = some oi) (hsel : ∀ (j : Nat) (o : Oper) cs b, ops[j]? = some o → o.op ≠ .select cs b)
    (hQ : ∀ c a w, Q (.panic c) (a.put oi.dst v) w → Q (.panic c) a w) (hik : i ≠ k) (hk : ∀ ok, ops[k]? = some ok → ∃ e ∈ ok.after, Region.binds md e = true ∧ e.on = i) :
    ∀ (fuel : Nat) (listed : Array Bool) (a : Act) (w : World), listed.getD k true = false →
      (∀ j oj, ops[j]? = some oj → j ≠ i → listed.getD j true = false → (∀ e ∈ oj.after, Region.binds md e = true → e.on ≠ i) → oi.apart ops oj = true) →
      i ∈ Region.ready md ops listed → YieldsIf P ops S oi v a → S w →
      KeptTill P md ops Q k S fuel (listed.setIfInBounds i true) (a.put oi.dst v) w → KeptTill P md ops Q k S (fuel + 1) listed a w := by
  intro fuel
  induction fuel with
  | zero =>
    intro listed a w _ _ hr hy hS H
    refine ⟨fun h => (by rw [h] at hr; cases hr), fun j hj => ?_⟩
    by_cases hji : j = i
    · subst hji; exact hy.wpOp hi hS ⟨fun _ => hS, H⟩
    · have := ready_mono hj hji
      rw [H.1] at this
      cases this
  | succ fuel ih =>
    intro listed a w hkl hfree hr hy hS H
    refine ⟨fun h => (by rw [h] at hr; cases hr), fun j hj => ?_⟩
    by_cases hji : j = i
    · subst hji; exact hy.wpOp hi hS ⟨fun _ => hS, H⟩
    have h1 := H.2 j (ready_mono hj hji)
    obtain ⟨hjun, oj, hoj, hall⟩ := mem_ready.1 hj
    have hi0 : listed.getD i false = false := by
      have h0 := (mem_ready.1 hr).1
      rcases Nat.lt_or_ge i listed.size with h' | h'
      · simp [h'] at h0 ⊢; exact h0
      · simp [Array.getElem?_eq_none h']
    have hnot : ∀ e ∈ oj.after, Region.binds md e = true → e.on ≠ i := fun e he hb heq => by
      have h2 := hall e he hb
      rw [heq, hi0] at h2
      cases h2
    have hjk : j ≠ k := fun hjk => by
      subst hjk
      obtain ⟨e, he, hb, heq⟩ := hk oj hoj
      exact hnot e he hb heq
    have h2 := wpOp_putIf hoj (hfree j oj hoj hji hjun hnot) (fun cs b => hsel i oi cs b hi) (fun cs b => hsel j oj cs b hoj) hQ hy h1
    have hkl1 : (listed.setIfInBounds j true).getD k true = false := by rw [getD_set_ne true hjk]; exact hkl
    have hkl2 : ((listed.setIfInBounds i true).setIfInBounds j true).getD k true = false := by rw [getD_set_ne true hjk, getD_set_ne true hik]; exact hkl
    have hfree' : ∀ m om, ops[m]? = some om → m ≠ i → (listed.setIfInBounds j true).getD m true = false →
        (∀ e ∈ om.after, Region.binds md e = true → e.on ≠ i) → oi.apart ops om = true := fun m om hm hmi hun hno => by
      refine hfree m om hm hmi ?_ hno
      by_cases hjm : j = m
      · subst hjm; exact hjun
      · rw [getD_set_ne true hjm] at hun; exact hun
    refine wpOp_mono (fun a' w' h3 => ⟨fun _ => h3.2.1 hkl2, ih (listed.setIfInBounds j true) a' w' hkl1 hfree' (ready_mono hr (Ne.symm hji)) h3.1 (h3.2.1 hkl2) ?_⟩) h2
    rw [Array.setIfInBounds_comm _ _ hji]
    exact h3.2.2

/-- Take number i first: the store k waits for it. -/
theorem KeptTill.take {i : Nat} {oi : Oper} {v : Value} {fuel : Nat} {listed : Array Bool} {a : Act} {w : World} (hi : ops[i]? = some oi)
    (hs : Region.noSelect ops = true) (hf : Region.free md ops listed i = true) (hr : (Region.ready md ops listed).contains i = true) (hik : (i == k) = false) (hkl : listed.getD k true = false)
    (hk : ((ops[k]?).map fun ok => ok.after.any fun e => Region.binds md e && e.on == i).getD true = true)
    (hQ : ∀ c d u a w, Q (.panic c) (a.put d u) w → Q (.panic c) a w) (hy : YieldsIf P ops S oi v a) (hS : S w)
    (h : KeptTill P md ops Q k S fuel (listed.setIfInBounds i true) (a.put oi.dst v) w) : KeptTill P md ops Q k S (fuel + 1) listed a w := by
  refine KeptTill.first hi (Region.noSelect_spec hs) (fun c a w h => hQ c _ _ a w h) (by simpa using hik) (fun ok hok => ?_) fuel listed a w hkl (Region.free_spec hi hf) (by simpa using hr) hy hS h
  rw [hok] at hk
  simp only [Option.map_some, Option.getD_some, Array.any_eq_true] at hk
  obtain ⟨m, hm, hb⟩ := hk
  simp only [Bool.and_eq_true, beq_iff_eq] at hb
  exact ⟨_, Array.getElem_mem hm, hb.1, hb.2⟩
theorem KeptTill.firstP {i : Nat} {oi : Oper} {v : Value} (hi : ops[i]? = some oi) (hsel : ∀ (j : Nat) (o : Oper) cs b, ops[j]? = some o → o.op ≠ .select cs b)
    (hQ : ∀ c a w, Q (.panic c) (a.put oi.dst v) w → Q (.panic c) a w) (hik : i ≠ k) :
    ∀ (fuel : Nat) (listed : Array Bool) (a : Act) (w : World),
      (∀ j oj, ops[j]? = some oj → j ≠ i → listed.getD j true = false → (∀ e ∈ oj.after, Region.binds md e = true → e.on ≠ i) → oi.apart ops oj = true) →
      i ∈ Region.ready md ops listed → YieldsIf P ops (fun _ => True) oi v a → (listed.getD k true = false → S w) →
      KeptTill P md ops Q k S fuel (listed.setIfInBounds i true) (a.put oi.dst v) w → KeptTill P md ops Q k S (fuel + 1) listed a w := by
  intro fuel
  induction fuel with
  | zero =>
    intro listed a w _ hr hy hS H
    refine ⟨fun h => (by rw [h] at hr; cases hr), fun j hj => ?_⟩
    by_cases hji : j = i
    · subst hji; exact hy.wpOp hi trivial ⟨fun h => hS (by rw [getD_set_ne true hik] at h; exact h), H⟩
    · have := ready_mono hj hji
      rw [H.1] at this
      cases this
  | succ fuel ih =>
    intro listed a w hfree hr hy hS H
    refine ⟨fun h => (by rw [h] at hr; cases hr), fun j hj => ?_⟩
    by_cases hji : j = i
    · subst hji; exact hy.wpOp hi trivial ⟨fun h => hS (by rw [getD_set_ne true hik] at h; exact h), H⟩
    have h1 := H.2 j (ready_mono hj hji)
    obtain ⟨hjun, oj, hoj, hall⟩ := mem_ready.1 hj
    have hi0 : listed.getD i false = false := by
      have h0 := (mem_ready.1 hr).1
      rcases Nat.lt_or_ge i listed.size with h' | h'
      · simp [h'] at h0 ⊢; exact h0
      · simp [Array.getElem?_eq_none h']
    have hnot : ∀ e ∈ oj.after, Region.binds md e = true → e.on ≠ i := fun e he hb heq => by
      have h2 := hall e he hb
      rw [heq, hi0] at h2
      cases h2
    have h2 := wpOp_putIf hoj (hfree j oj hoj hji hjun hnot) (fun cs b => hsel i oi cs b hi) (fun cs b => hsel j oj cs b hoj) hQ hy h1
    have hfree' : ∀ m om, ops[m]? = some om → m ≠ i → (listed.setIfInBounds j true).getD m true = false →
        (∀ e ∈ om.after, Region.binds md e = true → e.on ≠ i) → oi.apart ops om = true := fun m om hm hmi hun hno => by
      refine hfree m om hm hmi ?_ hno
      by_cases hjm : j = m
      · subst hjm; exact hjun
      · rw [getD_set_ne true hjm] at hun; exact hun
    have hgo : (listed.setIfInBounds j true).getD k true = false → ((listed.setIfInBounds i true).setIfInBounds j true).getD k true = false := fun h => by
      rw [Array.setIfInBounds_comm _ _ (Ne.symm hji), getD_set_ne true hik]; exact h
    refine wpOp_mono (fun a' w' h3 => ⟨fun h => h3.2.1 (hgo h), ih (listed.setIfInBounds j true) a' w' hfree' (ready_mono hr (Ne.symm hji)) h3.1 (fun h => h3.2.1 (hgo h)) ?_⟩) h2
    rw [Array.setIfInBounds_comm _ _ hji]
    exact h3.2.2
/-- Take number i first: it yields in whatever world. -/
theorem KeptTill.takeP {i : Nat} {oi : Oper} {v : Value} {fuel : Nat} {listed : Array Bool} {a : Act} {w : World} (hi : ops[i]? = some oi)
    (hs : Region.noSelect ops = true) (hf : Region.free md ops listed i = true) (hr : (Region.ready md ops listed).contains i = true) (hik : (i == k) = false)
    (hQ : ∀ c d u a w, Q (.panic c) (a.put d u) w → Q (.panic c) a w) (hy : YieldsIf P ops (fun _ => True) oi v a) (hS : listed.getD k true = false → S w)
    (h : KeptTill P md ops Q k S fuel (listed.setIfInBounds i true) (a.put oi.dst v) w) : KeptTill P md ops Q k S (fuel + 1) listed a w :=
  KeptTill.firstP hi (Region.noSelect_spec hs) (fun c a w h => hQ c _ _ a w h) (by simpa using hik) fuel listed a w (Region.free_spec hi hf) (by simpa using hr) hy hS h
/-- One of those that may come up. -/
theorem KeptTill.all {rs : List Nat} {fuel : Nat} {listed : Array Bool} {a : Act} {w : World} (hr : Region.ready md ops listed = rs) (hne : rs ≠ [])
    (h : ∀ i ∈ rs, wpOp P ops Q i (fun a' w' => ((listed.setIfInBounds i true).getD k true = false → S w') ∧ KeptTill P md ops Q k S fuel (listed.setIfInBounds i true) a' w') a w) : KeptTill P md ops Q k S (fuel + 1) listed a w :=
  ⟨fun h0 => absurd (hr ▸ h0) hne, hr ▸ h⟩
/-- The way on behind one operation, shut till it is opened. -/
def KeptOn (P : Program) (md : Region.Mode) (ops : Array Oper) (Q : Exit → Act → World → Prop) (k : Nat) (S : World → Prop) (fuel : Nat) (listed : Array Bool) (K : Act → World → Prop) : Prop :=
  ∀ a w, (listed.getD k true = false → S w) → KeptTill P md ops Q k S fuel listed a w → K a w
theorem KeptTill.step {i : Nat} {o : Oper} {fuel : Nat} {listed : Array Bool} {a : Act} {w : World} (ho : ops[i]? = some o) (hg : o.guard = none)
    (h : ∀ K : Act → World → Prop, Hid (KeptOn P md ops Q k S fuel (listed.setIfInBounds i true) K) → Oper.wp P o a w K Q) :
    wpOp P ops Q i (fun a' w' => ((listed.setIfInBounds i true).getD k true = false → S w') ∧ KeptTill P md ops Q k S fuel (listed.setIfInBounds i true) a' w') a w :=
  wpOp_step ho (fun K' hK => by
    have hw : Region.wanted o (yielded ops a.tmps) = true := by simp [Region.wanted, hg]
    rw [if_pos hw]
    exact h K' (Lib.hid (fun a w h1 h2 => hK a w ⟨h1, h2⟩)))
theorem KeptTill.one {i : Nat} {o : Oper} {fuel : Nat} {listed : Array Bool} {a : Act} {w : World} (hr : Region.ready md ops listed = [i]) (ho : ops[i]? = some o) (hg : o.guard = none)
    (h : ∀ K : Act → World → Prop, Hid (KeptOn P md ops Q k S fuel (listed.setIfInBounds i true) K) → Oper.wp P o a w K Q) : KeptTill P md ops Q k S (fuel + 1) listed a w :=
  KeptTill.all hr (by simp) (fun j hj => by rw [List.mem_singleton.1 hj]; exact KeptTill.step ho hg h)
theorem KeptTill.two {i j : Nat} {o u : Oper} {fuel : Nat} {listed : Array Bool} {a : Act} {w : World} (hr : Region.ready md ops listed = [i, j]) (ho : ops[i]? = some o) (hg : o.guard = none) (hu : ops[j]? = some u) (hgu : u.guard = none)
    (h : ∀ K : Act → World → Prop, Hid (KeptOn P md ops Q k S fuel (listed.setIfInBounds i true) K) → Oper.wp P o a w K Q)
    (h2 : ∀ K : Act → World → Prop, Hid (KeptOn P md ops Q k S fuel (listed.setIfInBounds j true) K) → Oper.wp P u a w K Q) : KeptTill P md ops Q k S (fuel + 1) listed a w :=
  KeptTill.all hr (by simp) (fun m hm => by
    rcases List.mem_cons.1 hm with rfl | hm
    · exact KeptTill.step ho hg h
    · rw [List.mem_singleton.1 hm]; exact KeptTill.step hu hgu h2)
theorem KeptTill.done {listed : Array Bool} {a : Act} {w : World} (hr : Region.ready md ops listed = []) (h : Q .normal a w) : ∀ fuel, KeptTill P md ops Q k S fuel listed a w
  | 0 => ⟨hr, h⟩
  | _ + 1 => ⟨fun _ => h, by rw [hr]; simp⟩
theorem wp_region_kept {id : Nat} {a : Act} {w : World} (hm : P.follows .mixedOrders = true)
    (h : KeptTill P .any ops Q k S ops.size (Array.replicate ops.size false) a w.drew) : (Code.region id ops true).wp P Q a w :=
  wp_region_any hm (KeptTill.any _ _ _ _ h)
/-- Once number k has come up, S is asked no more. -/
theorem KeptTill.of_any : ∀ (fuel : Nat) (listed : Array Bool) (a : Act) (w : World), listed.getD k true = true → wpAny P md ops Q fuel listed a w → KeptTill P md ops Q k S fuel listed a w
  | 0, _, _, _, _, h => h
  | fuel + 1, listed, a, w, hk, h => by
    have hk' : ∀ i, (listed.setIfInBounds i true).getD k true = true := fun i => by
      by_cases hik : i = k
      · subst hik
        rcases Nat.lt_or_ge i listed.size with h' | h'
        · simp [h']
        · simp [Array.getElem?_eq_none, h']
      · rw [getD_set_ne true hik]; exact hk
    exact ⟨h.1, fun i hi => wpOp_mono (fun a' w' h' => ⟨fun h0 => (by rw [hk' i] at h0; cases h0), KeptTill.of_any fuel _ a' w' (hk' i) h'⟩) (h.2 i hi)⟩
end
end Go.Proofs.YtdldipkbknhhoaaDoor
