/- What the proof of LetterReads stands on, part 4: 1 texts of ours, one behind the other. -/
import Derived.Deep.CutRange
import Derived.Deep.Cut
import Derived.Deep.CutBlock
import Derived.Test.YtdldipkbknhhoaaDoorMLetterReads0
import Derived.Test.YtdldipkbknhhoaaDoorMLetterReads1
import Derived.Test.YtdldipkbknhhoaaDoorMLetterReads3
/- LetterReads: it is true at every input. -/
namespace Go.Proofs.YtdldipkbknhhoaaDoor
open Go.RowKit
theorem fgl_len : ∀ (f : Nat) (l : List UInt8) (acc : List Fd), acc.length ≤ 16 → (fgl f l acc).1.length ≤ 16
  | f, [], acc, h => by rw [fgl_nil]; exact h
  | 0, _ :: _, acc, h => h
  | f + 1, x :: r, acc, h => by
    rw [fgl_cons]
    split
    · simp
    · split
      · simp
      · exact fgl_len f _ _ (by rw [List.length_append]; simp; omega)
theorem fget_len (l : List UInt8) : (fget l).1.length ≤ 16 := by
  unfold fget
  split
  · simp
  · split
    · simp
    · exact fgl_len _ _ _ (by simp)
theorem lgo_len : ∀ (f k : Nat) (l bod b : List UInt8) (N : Nat), l.length ≤ N → bod.length ≤ N → lgo f k l bod = some b → b.length ≤ N
  | f, k, [], bod, b, N, _, h2, h => by rw [lgo_nil] at h; injection h with h; rw [← h]; exact h2
  | 0, k, x :: l, bod, b, N, _, h2, h => by
    have h : some bod = some b := h
    injection h with h; rw [← h]; exact h2
  | f + 1, k, x :: l, bod, b, N, h1, h2, h => by
    obtain ⟨o, ho⟩ : ∃ o, lrd (x :: l) = o := ⟨_, rfl⟩
    match o, ho with
    | none, ho => rw [lgo_none (by simp) ho] at h; cases h
    | some (kind, d, r), ho =>
      have hl := lrd_len ho
      rw [lgo_some (by simp) ho] at h
      split at h
      · exact lgo_len f _ r d b N (by omega) (by omega) h
      · split at h
        · cases h
        · exact lgo_len f _ r bod b N (by omega) h2 h
theorem lget_len (l : List UInt8) : (lget l).1.1.length ≤ 16 ∧ (lget l).1.2.length ≤ l.length := by
  unfold lget
  split
  · simp
  · obtain ⟨o, ho⟩ : ∃ o, lrd l = o := ⟨_, rfl⟩
    rw [ho]
    match o, ho with
    | none, _ => simp
    | some (kind, d, r), ho =>
      have hl := lrd_len ho
      simp only
      split
      · simp
      · obtain ⟨p, hp⟩ : ∃ p, lgo 1024 0 r [] = p := ⟨_, rfl⟩
        rw [hp]
        match p, hp with
        | none, _ => simp
        | some bod, hp =>
          simp only
          split
          · simp
          · exact ⟨fget_len d, lgo_len 1024 0 r [] bod l.length (by omega) (by simp) hp⟩
/-- Bytes of our own that are known whole. -/
structure AB (w W : World) (g N : Nat) (G : List UInt8) : Prop where
  row : W.heap[g]? = some (.cells (bv G).toArray 5 (0, 0))
  len : G.length = N
  bel : Below w.heap.size w W
  new : w.heap.size ≤ g
theorem bv_set (l : List UInt8) (m : Nat) (x : UInt8) : bv (l.set m x) = (bv l).set m (.int .u8 x.toNat) := by simp [bv, List.map_set]
theorem AB.rd {w W : World} {g N : Nat} {G : List UInt8} (h : AB w W g N G) : Rd W (some ⟨g, 0, none⟩) (bv G) := fun hn => ⟨g, 0, rfl, fun k u hu => by
  rw [Nat.zero_add]
  exact wrote_cell h.row k u (by rw [List.getElem?_toArray]; exact hu)⟩
theorem AB.set {w W : World} {g N : Nat} {G : List UInt8} (h : AB w W g N G) (i : Nat) (x : UInt8) (hi : i < N) : AB w (W.setCell ⟨g, i, none⟩ (.int .u8 x.toNat)) g N (G.set i x) := by
  refine ⟨?_, by rw [List.length_set]; exact h.len, Fr.under h.bel h.bel.size ((Fr.refl (fun k => k = g) W).setCell (p := ⟨g, i, none⟩) (fun _ => rfl) _) (fun k hk _ => by have := h.new; omega), h.new⟩
  have := heap_setCell_same W g i _ _ (.int .u8 x.toNat) h.row
  rw [this, bv_set]
  simp
theorem AB.made {w W : World} (N : Nat) (b : Below w.heap.size w W) : AB w (W.alloc (.cells (madeCells #[.int .u8 0] N) 5)) W.heap.size N (List.replicate N 0) := by
  refine ⟨?_, by simp, b.alloc b.size _, b.size⟩
  have h1 := heap_alloc_new W (.cells (madeCells #[.int .u8 0] N) 5)
  have h2 : madeCells #[Value.int .u8 0] N = (bv (List.replicate N 0)).toArray := by
    apply Array.ext'
    rw [toList_madeCells_one]
    simp [bv]
  rw [h2] at h1 ⊢
  exact h1
theorem AB.cell {w W : World} {g N : Nat} {G : List UInt8} (h : AB w W g N G) (i : Nat) (hi : i < N) : ∃ v, W.cell? ⟨g, i, none⟩ = some v := by
  have hl : i < (bv G).length := by rw [bv_length, h.len]; exact hi
  exact ⟨_, wrote_cell h.row i _ (by rw [List.getElem?_toArray]; exact List.getElem?_eq_getElem hl)⟩
theorem AB.below {w W W' : World} {g N : Nat} {G : List UInt8} (h : AB w W g N G) (b : Below W.heap.size W W') : AB w W' g N G := ⟨heap_fr h.row (Fr.of_below b NoS) (fun x => x), h.len, h.bel.trans (b.mono h.bel.size), h.new⟩
def AllTo (w : World) (n : Nat) (v : Value) (W : World) : Prop := ∃ (N g : Nat) (G : List UInt8), v = .slice (some ⟨g, 0, none⟩) N N ∧ N ≤ 1024 ∧ n ≤ N ∧ AB w W g N G
theorem pad_or (Y : Int) (h0 : 0 ≤ Y) (h1 : Y ≤ 3) : bits .or .u8 64 Y = 64 + Y := by
  rcases (by omega : Y = 0 ∨ Y = 1 ∨ Y = 2 ∨ Y = 3) with rfl | rfl | rfl | rfl <;> decide
theorem u8_byte' (y : Int) (h0 : 0 ≤ y) (h1 : y ≤ 255) : ∃ x : UInt8, (x.toNat : Int) = y := ⟨UInt8.ofNat y.toNat, by rw [UInt8.toNat_ofNat']; omega⟩
theorem rget_to (l : List UInt8) (A : Option Addr) (n c : Nat) (w : World) (hn : l.length = n) (hr : Rd w A (bv l)) (hc : n ≤ c) (hcc : c ≤ 9223372036854775807) (hl : n ≤ 1000000) (fs : List Fd) (D : List UInt8) (E : Int) (h : lget l = ((fs, D), E)) :
    Calls Tryd.prog 15 #[.slice A n c] w (GetTo w fs D E) := by
  refine (rltget_any l A n c w hn hr hc hcc hl).mono ?_
  rw [h]
  rintro e w' ⟨Af, cf, Ab, cb, he, ho, ho2, hb⟩
  exact ⟨Af, cf, Ab, cb, he, Rd.of_ownS ho, Rd.of_own ho2, hb⟩
/-- A message that was told, in a variable. -/
structure Mg (w : World) (p : Nat) (F : List Fd) (D : List UInt8) (A : Option Addr) (c : Nat) (B : Option Addr) (d : Nat) : Prop where
  row : w.heap[p]? = some (.cells #[.slice A F.length c, .slice B D.length d] 25 (0, 0))
  rf : Rd w A (fdv F)
  rb : Rd w B (bv D)
section
variable {w w' : World} {p q : Nat} {F : List Fd} {D : List UInt8} {A B A' B' : Option Addr} {c d c' d' : Nat}
theorem Mg.below (h : Mg w p F D A c B d) (b : Below w.heap.size w w') : Mg w' p F D A c B d := ⟨heap_fr h.row (Fr.of_below b NoS) (fun x => x), h.rf.below b, h.rb.below b⟩
theorem Mg.made (hp : w.heap.size = p) (h1 : Rd w A (fdv F)) (h2 : Rd w B (bv D)) : Mg (w.alloc (.cells #[.slice A F.length c, .slice B D.length d] 25)) p F D A c B d := by
  subst hp
  exact ⟨heap_alloc_new w _, h1.alloc _, h2.alloc _⟩
theorem Mg.c0 (h : Mg w p F D A c B d) : w.cell? ⟨p, 0, none⟩ = some (.slice A F.length c) := wrote_cell h.row 0 _ rfl
theorem Mg.c1 (h : Mg w p F D A c B d) : w.cell? ⟨p, 1, none⟩ = some (.slice B D.length d) := wrote_cell h.row 1 _ rfl
theorem Mg.same (h : Mg w p F D A c B d) (k : Mg w q F D A' c' B' d') (h1 : F.length ≤ 1000000) (h2 : D.length ≤ 1000000) : Calls Tryd.prog 16 #[.agg #[.slice A F.length c, .slice B D.length d], .agg #[.slice A' F.length c', .slice B' D.length d']] w fun e w' => e = .returned (.bool true) ∧ Below w.heap.size w w' :=
  samem_n true F F D D _ _ _ _ rfl rfl rfl rfl A A' B B' c c' d d' w h.rf k.rf h.rb k.rb h1 h1 h2 h2 (by simp)
end
/-- What stays as the law goes on. -/
structure RF (w2 W : World) (g : Nat) (z : List Fd) (l : List UInt8) (Af : Option Addr) (nf cf : Nat) (Ab : Option Addr) (m d : Nat) (ga N : Nat) (G : List UInt8) (A : Option Addr) (bs : List UInt8) : Prop where
  bk : BK W
  msg : Msg W g z l Af nf cf Ab m d
  ab : AB w2 W ga N G
  rb : Rd W A (bv bs)
theorem RF.below {w2 W W' : World} {g : Nat} {z : List Fd} {l : List UInt8} {Af : Option Addr} {nf cf : Nat} {Ab : Option Addr} {m d ga N : Nat} {G : List UInt8} {A : Option Addr} {bs : List UInt8}
    (h : RF w2 W g z l Af nf cf Ab m d ga N G A bs) (b : Below W.heap.size W W') : RF w2 W' g z l Af nf cf Ab m d ga N G A bs := ⟨h.bk.below b, h.msg.below b, h.ab.below b, h.rb.below b⟩
def ReadsGo (w : World) (e : Ending) (w' : World) : Prop := e = .returned (.bool true) ∧ Below w.heap.size w w'
set_option maxRecDepth 100000 in
set_option maxHeartbeats 8000000 in
theorem reads_any (bs : List UInt8) (pad : Bool) (z : List Fd) (l : List UInt8) (at0 by0 : Int) (hb0 : 0 ≤ by0) (hb1 : by0 ≤ 255) (A Af Ab : Option Addr) (n c nf cf m d : Nat) (w : World) (hbk : BK w) (hn : bs.length = n) (hr : Rd w A (bv bs)) (hnc : n ≤ c) (hcc : c ≤ 9223372036854775807) (hi : MsgIn w Af nf cf Ab m d z l) :
    Calls Tryd.prog 4 #[.slice A n c, .bool pad, .agg #[.slice Af nf cf, .slice Ab m d], .int .i64 at0, .int .u8 by0] w (ReadsGo w) := by
  obtain ⟨g, hg⟩ : ∃ g, w.heap.size = g := ⟨_, rfl⟩
  obtain ⟨w1, hw1⟩ : ∃ W, w.alloc (.cells #[.slice Af nf cf, .slice Ab m d] 25) = W := ⟨_, rfl⟩
  have b1 : Below w.heap.size w w1 := by rw [← hw1]; exact (Below.refl _ w).alloc (Nat.le_refl _) _
  have h1 : Hid (w1.heap[g]? = some (.cells #[.slice Af nf cf, .slice Ab m d] 25 (0, 0))) := Lib.hid (by rw [← hw1, ← hg]; exact heap_alloc_new w _)
  have x0 := wrote_cell h1.out 0 _ rfl
  have x1 := wrote_cell h1.out 1 _ rfl
  rw [← hw1] at x0 x1
  have hi1 : MsgIn w1 Af nf cf Ab m d z l := ⟨hi.ln, hi.rf.below b1, hi.nc, hi.cc, hi.hs, hi.lm, hi.rb.below b1, hi.md, hi.dd⟩
  have GT := Lib.hid (great_any z l Af Ab nf cf m d w1 hi1)
  have HB := Lib.hid (hr.below b1)
  have Hn := Lib.hid hn
  have hbk1 := Lib.hid (hbk.below b1)
  have Hi := Lib.hid hi1
  replace b1 := Lib.hid b1
  replace hw1 := Lib.hid hw1
  clear hn hr hi hi1 hbk
  have fin : Hid (∀ e W, e = .returned (.bool true) → Below w1.heap.size w1 W → ReadsGo w e W) := Lib.hid (fun e W h b => ⟨h, b1.out.trans (b.mono b1.out.size)⟩)
  by_cases h1024 : 1024 < n
  · have d0 : decide ((1024 : Int) < (n : Int)) = true := decide_eq_true (by omega)
    go_enter Tryd.func4, Tryd.ntmps4
    go_wp2_with fail
    rw [hw1.out]
    refine (awake_any _ hbk1.out).mono ?_
    rintro e w2 ⟨rfl, b2⟩
    go_wp2_with fail
    go_ret
    exact fin.out _ _ rfl b2
  · have d0 : decide ((1024 : Int) < (n : Int)) = false := decide_eq_false (by omega)
    have hn0 : n ≤ 1024 := by omega
    go_enter Tryd.func4, Tryd.ntmps4
    go_wp2_with fail
    rw [hw1.out]
    refine GT.out.mono ?_
    rintro e w2 ⟨⟨v, rfl, hv⟩, b2⟩
    clear GT
    cases v with
    | true =>
      clear x0 x1
      go_wp2_with fail
      refine (awake_any _ (hbk1.out.below b2)).mono ?_
      rintro e w3 ⟨rfl, b3⟩
      go_wp2_with fail
      go_ret
      exact fin.out _ _ rfl (b2.trans (b3.mono b2.size))
    | false =>
      obtain ⟨hv1, hv2, hv3⟩ := hv rfl
      have M : Hid (Msg w2 g z l Af nf cf Ab m d) := Lib.hid ⟨heap_fr h1.out (Fr.of_below b2 NoS) (fun x => x), (Hi.out.rf.below b2), (Hi.out.rb.below b2), Hi.out.ln, Hi.out.lm, by omega, by omega, fun f hf => by have := hv3 f hf; omega⟩
      have hbk2 := Lib.hid (hbk1.out.below b2)
      have HB2 := Lib.hid (HB.out.below b2)
      have hgl : g < w2.heap.size := heap_lt M.out.row
      clear x0 x1 h1 Hi HB hbk1 hw1 hv hv1 hv2 hv3 d0 h1024
      have HM : ∀ N : Nat, N ≤ 1024 → ∀ w : World, (Instr.makeSlice 23 (.int .i64 (N : Int)) (.int .i64 (N : Int))).run Tryd.prog w = .ok (.slice (some ⟨w.heap.size, 0, none⟩) N N) (w.alloc (.cells (madeCells #[.int .u8 0] N) 5)) := fun N hN w =>
        run_make_row' (P := Tryd.prog) 23 5 (.int .u8 0) 1 Tryd.underlying23 infoB rfl .i64 .i64 N (by omega) (by omega) w
      have HM1 : ∀ w : World, (Instr.makeSlice 23 (.int .i64 256) (.int .i64 256)).run Tryd.prog w = .ok (.slice (some ⟨w.heap.size, 0, none⟩) 256 256) (w.alloc (.cells (madeCells #[.int .u8 0] 256) 5)) := HM 256 (by omega)
      have HM2 : ∀ w : World, (Instr.makeSlice 23 (.int .i64 1024) (.int .i64 1024)).run Tryd.prog w = .ok (.slice (some ⟨w.heap.size, 0, none⟩) 1024 1024) (w.alloc (.cells (madeCells #[.int .u8 0] 1024) 5)) := HM 1024 (by omega)
      clear HM
      go_upto_if 38 with fail
      have hn256 : Hid (n ≤ 256 ∨ 256 < n) := Lib.hid (by omega)
      go_cut [11] from 39 to 39 (fun v W => AllTo w2 n v W)
      case first =>
        rcases hn256.out with h | h
        · have d1 : decide ((256 : Int) < (n : Int)) = false := decide_eq_false (by omega)
          go_wp2_with fail
          go_meet
          exact ⟨256, _, _, rfl, by omega, h, AB.made 256 (Below.refl _ _)⟩
        · have d1 : decide ((256 : Int) < (n : Int)) = true := decide_eq_true (by omega)
          have h9 := AB.made (w := w2) (W := w2.alloc (.cells (madeCells #[.int .u8 0] 256) 5)) 1024 ((Below.refl _ w2).alloc (Nat.le_refl _) _)
          rw [World.size_alloc] at h9
          replace h9 := Lib.hid h9
          go_wp2_with fail
          go_meet
          exact ⟨1024, _, _, rfl, by omega, hn0, h9.out⟩
      case rest =>
        obtain ⟨N, ga, G, rfl, hN, hnN, HA0⟩ := hcut
        have HA := Lib.hid HA0
        have HB3 := Lib.hid (HB2.out.below HA0.bel)
        obtain ⟨n3, hn3⟩ : ∃ n3, n3 + n = N := ⟨N - n, by omega⟩
        have q3 : IntKind.i64.wrap ((N : Int) - (n : Int)) = (n3 : Int) := by rw [IntKind.wrap_i64]; omega
        have hGl : Hid (0 + n ≤ G.length) := Lib.hid (by rw [HA0.len]; omega)
        clear HA0 HM1 HM2 hn256
        go_upto_region 8 with (refine wpList_copyB rfl (.tmp 40) (.tmp 41) 23 23 rfl 5 Tryd.underlying23 (by kernel_rfl) (some ⟨ga, 0, none⟩) A N N n c (by rfl) (by rfl) ga 0 G bs 5 HA.out.row Hn.out hnN (fun _ => rfl) HB3.out hGl.out ?_; intro w4 hG4 hF4; replace hG4 := Lib.hid hG4; replace hF4 := Lib.hid hF4)
        have HA4 : Hid (∃ G4, AB w2 w4 ga N G4) := Lib.hid ⟨_, hG4.out, by
          have := HA.out.len
          have := Hn.out
          simp only [List.length_append, List.length_take, List.length_drop]
          omega, Fr.under HA.out.bel HA.out.bel.size hF4.out (fun k hk _ => by have := HA.out.new; omega), HA.out.new⟩
        obtain ⟨t3, ht3⟩ : ∃ t3, decide ((3 : Int) ≤ (n3 : Int)) = t3 := ⟨_, rfl⟩
        clear hG4 hF4 HA hGl HB3
        go_cut [52] from 48 to 52 (fun v W => v = .bool (pad && t3) ∧ w4 = W)
        case first =>
          cases pad
          · go_wp2_with fail
            go_meet
            exact ⟨rfl, rfl⟩
          · cases t3
            · go_wp2_with fail
              go_meet
              exact ⟨rfl, rfl⟩
            · go_wp2_with fail
              go_meet
              exact ⟨rfl, rfl⟩
        case rest =>
          obtain ⟨rfl, rfl⟩ := hcut
          obtain ⟨pt, hpt⟩ : ∃ pt, (pad && t3) = pt := ⟨_, rfl⟩
          have hp3 : Hid (pt = true → 3 ≤ n3) := Lib.hid (fun e => by
            rw [← hpt] at e
            have h := (Bool.and_eq_true _ _ ▸ e : pad = true ∧ t3 = true).2
            rw [← ht3] at h
            have := of_decide_eq_true h
            omega)
          rw [hpt]
          clear hpt ht3
          go_upto_if 52 with fail
          go_cut [] from 53 to 74 (fun W => Hid (∃ G, AB w2 W ga N G))
          case first =>
            cases pt with
            | false =>
              go_wp2_with fail
              go_meet
              exact HA4
            | true =>
              have h3 := hp3.out rfl
              obtain ⟨G4, h4⟩ := HA4.out
              obtain ⟨y, hy⟩ : ∃ y, y + 3 = n3 := ⟨n3 - 3, by omega⟩
              obtain ⟨Y, hY⟩ : ∃ Y : Nat, y / 256 = Y := ⟨_, rfl⟩
              obtain ⟨i1, hi1⟩ : ∃ i1, n + 1 = i1 := ⟨_, rfl⟩
              obtain ⟨i2, hi2⟩ : ∃ i2, n + 2 = i2 := ⟨_, rfl⟩
              have r1 : IntKind.i64.wrap ((n : Int) + 1) = (i1 : Int) := by rw [IntKind.wrap_i64]; omega
              have r2 : IntKind.i64.wrap ((n : Int) + 2) = (i2 : Int) := by rw [IntKind.wrap_i64]; omega
              have r3 : IntKind.i64.wrap ((n3 : Int) - 3) = (y : Int) := by rw [IntKind.wrap_i64]; omega
              have hsh : Op.shift .shr .i64 (y : Int) .u64 8 = pure (.int .i64 (Y : Int)) := by
                rw [shift_shr_any _ _ _ _ (by omega), ← hY]
                rfl
              have r4 : IntKind.u8.wrap (Y : Int) = (Y : Int) := by rw [IntKind.wrap_u8]; omega
              have r5 : bits .or .u8 64 (Y : Int) = 64 + (Y : Int) := pad_or Y (by omega) (by omega)
              obtain ⟨v5, hv5⟩ : ∃ v5 : Int, 64 + (Y : Int) = v5 := ⟨_, rfl⟩
              rw [hv5] at r5
              obtain ⟨v6, hv6⟩ : ∃ v6 : Int, IntKind.u8.wrap (y : Int) = v6 := ⟨_, rfl⟩
              have b6 : 0 ≤ v6 ∧ v6 ≤ 255 := by rw [← hv6, IntKind.wrap_u8]; omega
              obtain ⟨x5, hx5⟩ := u8_byte' v5 (by omega) (by omega)
              obtain ⟨x6, hx6⟩ := u8_byte' v6 b6.1 b6.2
              have s0 : (n : Int) < (N : Int) := by omega
              have s1 : (i1 : Int) < (N : Int) := by omega
              have s2 : (i2 : Int) < (N : Int) := by omega
              have p0 : (0 : Int) ≤ (n : Int) := by omega
              have p1 : (0 : Int) ≤ (i1 : Int) := by omega
              have p2 : (0 : Int) ≤ (i2 : Int) := by omega
              have f0 := frozen_of_row w4 ga n _ _ h4.row
              have f1 := frozen_of_row w4 ga i1 _ _ h4.row
              have f2 := frozen_of_row w4 ga i2 _ _ h4.row
              obtain ⟨u0, c0⟩ := h4.cell n (by omega)
              obtain ⟨u1, c1⟩ := h4.cell i1 (by omega)
              obtain ⟨u2, c2⟩ := h4.cell i2 (by omega)
              have e1 : n ≠ i1 := by omega
              have e2 : n ≠ i2 := by omega
              have e3 : i1 ≠ i2 := by omega
              have FIN : Hid (∃ G, AB w2 (((w4.setCell ⟨ga, n, none⟩ (.int .u8 33)).setCell ⟨ga, i1, none⟩ (.int .u8 v5)).setCell ⟨ga, i2, none⟩ (.int .u8 v6)) ga N G) := Lib.hid ⟨_, by
                have a1 := h4.set n 33 (by omega)
                have a2 := a1.set i1 x5 (by omega)
                have a3 := a2.set i2 x6 (by omega)
                rw [hx5, hx6] at a3
                exact a3⟩
              clear hp3 HA4 h4 hy hY hi1 hi2 hv5 b6 hx5 hx6 h3 hn3
              go_wp2_with fail
              go_meet
              exact FIN
          case rest =>
            obtain ⟨G, hG⟩ := hcut.out
            have T : Hid (RF w2 wc g z l Af nf cf Ab m d ga N G A bs) := Lib.hid ⟨hbk2.out.below hG.bel, M.out.below hG.bel, hG, HB2.out.below hG.bel⟩
            have fin2 : Hid (∀ e W, e = .returned (.bool true) → AB w2 W ga N G → ReadsGo w e W) := Lib.hid (fun e W h b => fin.out e W h (b2.trans (b.bel.mono b2.size)))
            clear hG hcut HA4 hp3 M hbk2 HB2 fin b1 b2 hgl hn3
            obtain ⟨F1, hF1⟩ : ∃ x, (lget G).1.1 = x := ⟨_, rfl⟩
            obtain ⟨D1, hD1⟩ : ∃ x, (lget G).1.2 = x := ⟨_, rfl⟩
            obtain ⟨E1, hE1⟩ : ∃ x, (lget G).2 = x := ⟨_, rfl⟩
            have hl1 := lget_len G
            have g1 : lget G = ((F1, D1), E1) := by rw [← hF1, ← hD1, ← hE1]
            rw [hF1, hD1, T.out.ab.len] at hl1
            have hl1a : F1.length ≤ 1000000 := by omega
            have hl1b : D1.length ≤ 1000000 := by omega
            obtain ⟨F2, hF2⟩ : ∃ x, (lget bs).1.1 = x := ⟨_, rfl⟩
            obtain ⟨D2, hD2⟩ : ∃ x, (lget bs).1.2 = x := ⟨_, rfl⟩
            obtain ⟨E2, hE2⟩ : ∃ x, (lget bs).2 = x := ⟨_, rfl⟩
            have g2 : lget bs = ((F2, D2), E2) := by rw [← hF2, ← hD2, ← hE2]
            have e1 : (E1 != E1) = false := bne_self_eq_false _
            have e2 : (E2 != E2) = false := bne_self_eq_false _
            clear hF1 hD1 hE1 hl1 hF2 hD2 hE2
            replace g1 := Lib.hid g1
            replace g2 := Lib.hid g2
            replace hnN := Lib.hid hnN
            go_wp2_with fail
            refine (get_to G (some ⟨ga, 0, none⟩) N N wc T.out.bk T.out.ab.len T.out.ab.rd (Nat.le_refl _) (by omega) (by omega) F1 D1 E1 g1.out).mono ?_
            rintro e wa5 ⟨Y5, y5, Z5, z5, rfl, hY5, hZ5, ba5⟩
            obtain ⟨p5, hp5⟩ : ∃ p, wa5.heap.size = p := ⟨_, rfl⟩
            obtain ⟨w5, hw5⟩ : ∃ W, wa5.alloc (.cells #[.slice Y5 F1.length y5, .slice Z5 D1.length z5] 25) = W := ⟨_, rfl⟩
            have bb5 : Below wc.heap.size wc w5 := by rw [← hw5]; exact ba5.alloc ba5.size _
            have N5 : Hid (Mg w5 p5 F1 D1 Y5 y5 Z5 z5) := Lib.hid (by rw [← hw5]; exact Mg.made hp5 hY5 hZ5)
            replace T := Lib.hid (T.out.below bb5)
            clear ba5 bb5 hY5 hZ5
            replace hp5 := Lib.hid hp5
            replace hw5 := Lib.hid hw5
            go_wp2_with fail
            rw [hw5.out]
            try rw [hp5.out]
            refine (rget_to G (some ⟨ga, 0, none⟩) N N w5 T.out.ab.len T.out.ab.rd (Nat.le_refl _) (by omega) (by omega) F1 D1 E1 g1.out).mono ?_
            rintro e wa6 ⟨Y6, y6, Z6, z6, rfl, hY6, hZ6, ba6⟩
            obtain ⟨p6, hp6⟩ : ∃ p, wa6.heap.size = p := ⟨_, rfl⟩
            obtain ⟨w6, hw6⟩ : ∃ W, wa6.alloc (.cells #[.slice Y6 F1.length y6, .slice Z6 D1.length z6] 25) = W := ⟨_, rfl⟩
            have bb6 : Below w5.heap.size w5 w6 := by rw [← hw6]; exact ba6.alloc ba6.size _
            have N6 : Hid (Mg w6 p6 F1 D1 Y6 y6 Z6 z6) := Lib.hid (by rw [← hw6]; exact Mg.made hp6 hY6 hZ6)
            replace T := Lib.hid (T.out.below bb6)
            replace N5 := Lib.hid (N5.out.below bb6)
            clear ba6 bb6 hY6 hZ6
            replace hp6 := Lib.hid hp6
            replace hw6 := Lib.hid hw6
            go_wp2_with fail
            rw [hw6.out]
            try rw [hp6.out]
            refine (get_to bs A n c w6 T.out.bk Hn.out T.out.rb hnc hcc (by omega) F2 D2 E2 g2.out).mono ?_
            rintro e wa7 ⟨Y7, y7, Z7, z7, rfl, hY7, hZ7, ba7⟩
            obtain ⟨p7, hp7⟩ : ∃ p, wa7.heap.size = p := ⟨_, rfl⟩
            obtain ⟨w7, hw7⟩ : ∃ W, wa7.alloc (.cells #[.slice Y7 F2.length y7, .slice Z7 D2.length z7] 25) = W := ⟨_, rfl⟩
            have bb7 : Below w6.heap.size w6 w7 := by rw [← hw7]; exact ba7.alloc ba7.size _
            have N7 : Hid (Mg w7 p7 F2 D2 Y7 y7 Z7 z7) := Lib.hid (by rw [← hw7]; exact Mg.made hp7 hY7 hZ7)
            replace T := Lib.hid (T.out.below bb7)
            replace N5 := Lib.hid (N5.out.below bb7)
            replace N6 := Lib.hid (N6.out.below bb7)
            clear ba7 bb7 hY7 hZ7
            replace hp7 := Lib.hid hp7
            replace hw7 := Lib.hid hw7
            go_wp2_with fail
            rw [hw7.out]
            try rw [hp7.out]
            refine (rget_to bs A n c w7 Hn.out T.out.rb hnc hcc (by omega) F2 D2 E2 g2.out).mono ?_
            rintro e wa8 ⟨Y8, y8, Z8, z8, rfl, hY8, hZ8, ba8⟩
            obtain ⟨p8, hp8⟩ : ∃ p, wa8.heap.size = p := ⟨_, rfl⟩
            obtain ⟨w8, hw8⟩ : ∃ W, wa8.alloc (.cells #[.slice Y8 F2.length y8, .slice Z8 D2.length z8] 25) = W := ⟨_, rfl⟩
            have bb8 : Below w7.heap.size w7 w8 := by rw [← hw8]; exact ba8.alloc ba8.size _
            have N8 : Hid (Mg w8 p8 F2 D2 Y8 y8 Z8 z8) := Lib.hid (by rw [← hw8]; exact Mg.made hp8 hY8 hZ8)
            replace T := Lib.hid (T.out.below bb8)
            replace N5 := Lib.hid (N5.out.below bb8)
            replace N6 := Lib.hid (N6.out.below bb8)
            replace N7 := Lib.hid (N7.out.below bb8)
            clear ba8 bb8 hY8 hZ8
            replace hp8 := Lib.hid hp8
            replace hw8 := Lib.hid hw8
            have m50 := N5.out.c0
            have m51 := N5.out.c1
            have m60 := N6.out.c0
            have m61 := N6.out.c1
            rw [← hw8.out] at m50 m51 m60 m61
            go_wp2_with fail
            rw [hw8.out]
            try rw [hp8.out]
            clear m50 m51 m60 m61
            refine (N5.out.same N6.out hl1a hl1b).mono ?_
            rintro e w9 ⟨rfl, b9⟩
            replace T := Lib.hid (T.out.below b9)
            clear b9 N5 N6 N7 N8 hw5 hw6 hw7 hw8 hp5 hp6 hp7 hp8 g1 g2 hl1a hl1b
            have x0 := T.out.msg.c0
            have x1 := T.out.msg.c1
            obtain ⟨E3, hE3⟩ : ∃ E3, ltE z l 512 = E3 := ⟨_, rfl⟩
            go_wp2_with fail
            refine (T.out.msg.r.put T.out.bk 512 E3 hE3).mono ?_
            rintro e wq ⟨R, Y, r, y, rfl, hk, hR, hY, hry, hyy, hr2, bq⟩
            replace T := Lib.hid (T.out.below bq)
            have hcl : Hid (E3 = 0 → r = 512) := Lib.hid (fun h => by
              rw [h] at hE3
              have := (hR.2 hE3).1
              omega)
            clear x0 x1 bq hR hE3
            by_cases h30 : E3 = 0
            · have hr512 := hcl.out h30
              subst h30 hr512
              replace hk := Lib.hid hk
              replace hY := Lib.hid hY
              have CC := Lib.hid (copied_any R Y y wq hY.out (by rw [hk.out]; omega))
              rw [hk.out] at CC
              clear hcl
              go_wp2_with fail
              refine CC.out.mono ?_
              rintro e wr ⟨C, cc, rfl, oC, bC⟩
              obtain ⟨gc, rfl, hgc, hgc2⟩ : ∃ gc, C = some ⟨gc, 0, none⟩ ∧ wq.heap.size ≤ gc ∧ gc < wr.heap.size := by
                rcases own_cases oC with ⟨_, h, _⟩ | ⟨gc, h1, h2, h3⟩
                · cases h
                · exact ⟨gc, h1, h2, h3⟩
              obtain ⟨j, hj, LJ⟩ := low_ex at0 512 (by omega) (by omega)
              replace LJ : Hid (∀ w : World, Calls Tryd.prog 18 #[.int .i64 at0, .int .i64 512] w fun e w' => e = .returned (.int .i64 j) ∧ w = w') := Lib.hid LJ
              obtain ⟨xb, hxb⟩ := u8_byte' by0 hb0 hb1
              have hcl := RetS.cap oC
              have q1 := oC.frozenAt j
              have q2 := oC.cellAt j (by omega)
              have hjl : j < R.length := by rw [hk.out]; exact hj
              obtain ⟨vv, hvv⟩ : ∃ vv, (bv R)[j]? = some vv := ⟨_, bv_get hjl⟩
              rw [hvv] at q2
              clear hvv
              have st := Lib.hid (oC.stored j (.int .u8 by0))
              obtain ⟨wt, hwt⟩ : ∃ W, wr.setCell ⟨gc, j, none⟩ (.int .u8 by0) = W := ⟨_, rfl⟩
              have HS : Hid (Rd wt (some ⟨gc, 0, none⟩) (bv (R.set j xb))) := Lib.hid (by
                have h := st.out.1
                rw [hwt] at h
                have h9 := Rd.of_own h
                rw [bv_set, hxb]
                exact h9)
              have hsl : Hid ((R.set j xb).length = 512) := Lib.hid (by rw [List.length_set]; exact hk.out)
              have bt : Below wq.heap.size wq wt := by rw [← hwt]; exact bC.setCell hgc _
              replace T := Lib.hid (T.out.below bt)
              have j0 : (0 : Int) ≤ (j : Int) := by omega
              have j1 : (j : Int) < 512 := by omega
              obtain ⟨Q, hQ⟩ : ∃ Q, R.set j xb = Q := ⟨_, rfl⟩
              rw [hQ] at HS hsl
              obtain ⟨F4, hF4⟩ : ∃ x, (lget Q).1.1 = x := ⟨_, rfl⟩
              obtain ⟨D4, hD4⟩ : ∃ x, (lget Q).1.2 = x := ⟨_, rfl⟩
              obtain ⟨E4, hE4⟩ : ∃ x, (lget Q).2 = x := ⟨_, rfl⟩
              have hl4 := lget_len Q
              have g4 : lget Q = ((F4, D4), E4) := by rw [← hF4, ← hD4, ← hE4]
              rw [hF4, hD4, hsl.out] at hl4
              have hl4a : F4.length ≤ 1000000 := by omega
              have hl4b : D4.length ≤ 1000000 := by omega
              have e4 : (E4 == E4) = true := beq_self_eq_true _
              clear hF4 hD4 hE4 hl4 hQ hxb st bt bC oC CC hk hY hgc hgc2 hjl
              replace g4 := Lib.hid g4
              replace hwt := Lib.hid hwt
              go_wp2_with fail
              refine (LJ.out _).mono ?_
              rintro e w' ⟨rfl, rfl⟩
              go_wp2_with fail
              rw [hwt.out]
              clear q1 q2 hwt LJ
              refine (get_to Q (some ⟨gc, 0, none⟩) 512 cc wt T.out.bk hsl.out HS.out hcl.1 hcl.2 (by omega) F4 D4 E4 g4.out).mono ?_
              rintro e wa5 ⟨Y5, y5, Z5, z5, rfl, hY5, hZ5, ba5⟩
              obtain ⟨p5, hp5⟩ : ∃ p, wa5.heap.size = p := ⟨_, rfl⟩
              obtain ⟨w5, hw5⟩ : ∃ W, wa5.alloc (.cells #[.slice Y5 F4.length y5, .slice Z5 D4.length z5] 25) = W := ⟨_, rfl⟩
              have bb5 : Below wt.heap.size wt w5 := by rw [← hw5]; exact ba5.alloc ba5.size _
              have N5 : Hid (Mg w5 p5 F4 D4 Y5 y5 Z5 z5) := Lib.hid (by rw [← hw5]; exact Mg.made hp5 hY5 hZ5)
              replace T := Lib.hid (T.out.below bb5)
              have HS5 := Lib.hid (HS.out.below bb5)
              clear ba5 bb5 hY5 hZ5
              replace hp5 := Lib.hid hp5
              replace hw5 := Lib.hid hw5
              go_wp2_with fail
              rw [hw5.out]
              try rw [hp5.out]
              refine (rget_to Q (some ⟨gc, 0, none⟩) 512 cc w5 hsl.out HS5.out hcl.1 hcl.2 (by omega) F4 D4 E4 g4.out).mono ?_
              rintro e wa6 ⟨Y6, y6, Z6, z6, rfl, hY6, hZ6, ba6⟩
              obtain ⟨p6, hp6⟩ : ∃ p, wa6.heap.size = p := ⟨_, rfl⟩
              obtain ⟨w6, hw6⟩ : ∃ W, wa6.alloc (.cells #[.slice Y6 F4.length y6, .slice Z6 D4.length z6] 25) = W := ⟨_, rfl⟩
              have bb6 : Below w5.heap.size w5 w6 := by rw [← hw6]; exact ba6.alloc ba6.size _
              have N6 : Hid (Mg w6 p6 F4 D4 Y6 y6 Z6 z6) := Lib.hid (by rw [← hw6]; exact Mg.made hp6 hY6 hZ6)
              replace T := Lib.hid (T.out.below bb6)
              replace N5 := Lib.hid (N5.out.below bb6)
              clear ba6 bb6 hY6 hZ6
              replace hp6 := Lib.hid hp6
              replace hw6 := Lib.hid hw6
              have m50 := N5.out.c0
              have m51 := N5.out.c1
              have m60 := N6.out.c0
              have m61 := N6.out.c1
              rw [← hw6.out] at m50 m51 m60 m61
              go_wp2_with fail
              rw [hw6.out]
              try rw [hp6.out]
              clear m50 m51 m60 m61
              refine (N5.out.same N6.out hl4a hl4b).mono ?_
              rintro e w9 ⟨rfl, b9⟩
              replace T := Lib.hid (T.out.below b9)
              clear b9 N5 N6 hw5 hw6 hp5 hp6 g4 hl4a hl4b
              go_wp2_with fail
              refine (awake_any _ T.out.bk).mono ?_
              rintro e wz ⟨rfl, bz⟩
              go_wp2_with fail
              go_ret
              exact fin2.out _ _ rfl (T.out.ab.below bz)
            · have t3 : (E3 != 0) = true := by simpa using h30
              clear hcl
              replace h30 := Lib.hid h30
              go_wp2_with fail
              refine (awake_any _ T.out.bk).mono ?_
              rintro e wz ⟨rfl, bz⟩
              go_wp2_with fail
              go_ret
              exact fin2.out _ _ rfl (T.out.ab.below bz)
end Go.Proofs.YtdldipkbknhhoaaDoor
