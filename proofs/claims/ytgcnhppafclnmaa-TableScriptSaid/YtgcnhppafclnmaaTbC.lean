/- table: Insert. -/
import Derived.Test.YtgcnhppafclnmaaTbB
import Derived.Deep.RegionHeld3
import Derived.Deep.CutRange
namespace Go.Proofs.Ytgcnhppafclnmaa
open Go.RowKit

theorem size_at (a b : ByteArray) (n : Nat) (w : World) (hn : a.size + b.size + 32 = n) (hb : n ≤ 1000000) : Calls Try.prog 15 #[.agg #[.string a, .string b]] w fun e w' => e = .returned (.int .i64 n) ∧ Below w.heap.size w w' := size_any ⟨a, b⟩ n w hn hb
/-- 'append(v, xs...)' of records, as one step of a region. -/
theorem step_appS {P : Program} {w : World} {ops : Array Oper} {o : Oper} {a : Act} {K : Act → World → Prop} {Q : Exit → Act → World → Prop} {E : Prop} (hgd : o.guard = none) (s x : Operand) (t : TypeId)
    (ho : o.op = .call { callee := .builtin .append, args := #[s, x], argTypes := #[t, t] })
    (base : Nat) (e : TypeId) (z : Value) (size bytes : Nat) (hinfo : (P.info? e).map (fun i => (i.zero, i.size, i.bytes)) = some (some z, size, bytes)) (ht : P.underlying t = some (.slice e)) (hzs : z.cells.size = size) (hsz : 0 < size)
    (v : Value) (n : Nat) (xs : List Value) (hs : a.eval s = v) (hown : w.ownsRow base e size v n xs)
    (ad : Addr) (m c : Nat) (news : List Value) (hx : a.eval x = .slice (some ad) m c) (hl : news.length = m * size) (hr : ∀ j u, news[j]? = some u → w.cell? (ad.add j) = some u) (h1 : ∀ u ∈ news, u.oneCell' = true)
    (h63 : n + m ≤ maxLen) (hbytes : (n + m) * bytes ≤ 140737488355328) (hbase : base ≤ w.heap.size)
    (h : ∀ A' c' w', w'.ownsRow base e size (.slice A' (n + m) c') (n + m) (xs ++ news) → w.grownBy w' v.ownBlock →
      ((Value.slice A' (n + m) c').ownBlock = v.ownBlock ∨ (Value.slice A' (n + m) c').ownBlock = some w.heap.size) → K (a.put o.dst (.slice A' (n + m) c')) w') :
    if Region.wanted o (yielded ops a.tmps) = true then Oper.wp P o a w K Q else E := by
  have hw : Region.wanted o (yielded ops a.tmps) = true := by simp [Region.wanted, hgd]
  rw [if_pos hw]
  obtain ⟨i, hi, hz, hsize, hby⟩ := info_parts hinfo
  exact wp_appS s x t ho base e i z size bytes ht hi hz hsize hby hzs hsz v n xs hs hown ad m c news hx hl hr h1 h63 hbytes hbase h

section
variable {w w' : World} {p : Nat} {A : Option Addr} {c : Nat} {t : Tb}
set_option maxRecDepth 100000 in
set_option maxHeartbeats 2000000 in
theorem tins_no (h : IsTb w p A c t) (a b : ByteArray) (n : Nat) (hn : a.size + b.size + 32 = n) (hb : n ≤ 1000000) (hm : t.most < n) : Calls Try.prog 10 #[.pointer (some ⟨p, 0, none⟩), .agg #[.string a, .string b]] w fun e w' => e = .returned (.bool false) ∧ Below w.heap.size w w' := by
  have c0 := wrote_cell h.cell 0 _ rfl
  have hlt := h.lt
  obtain ⟨M, hM⟩ : ∃ M : Int, (t.most : Int) = M := ⟨_, rfl⟩
  have b1 : decide (M < (n : Int)) = true := decide_eq_true (by omega)
  rw [hM] at c0
  have HS := Lib.hid (fun o => ((Below.refl _ w).alloc (Nat.le_refl _) o : Below w.heap.size w (w.alloc o)))
  have hk : Hid (∀ o W, o = Obj.cells #[.string a, .string b] 28 → Below (w.alloc o).heap.size (w.alloc o) W → (W.cell? ⟨w.heap.size, 0, none⟩ = some (.string a) ∧ W.cell? ⟨w.heap.size, 1, none⟩ = some (.string b) ∧ W.cell? ⟨p, 0, none⟩ = some (.int .i64 M)) ∧ Below w.heap.size w W) := Lib.hid (fun o W ho hB => by
    subst ho
    refine ⟨⟨?_, ?_, ?_⟩, (HS.out _).trans (hB.mono (by simp))⟩
    · rw [hB.cell (p := ⟨w.heap.size, 0, none⟩) (by simp), World.cell?_alloc_new]; rfl
    · rw [hB.cell (p := ⟨w.heap.size, 1, none⟩) (by simp), World.cell?_alloc_new]; rfl
    · rw [hB.cell (p := ⟨p, 0, none⟩) (by simp; omega), (HS.out _).cell (p := ⟨p, 0, none⟩) hlt]; exact c0)
  clear h hM
  go_enter Try.func10, Try.ntmps10
  go_wp2_with fail
  have hS0 := hk.out _ _ rfl (Below.refl _ _)
  obtain ⟨⟨x0, x1, x2⟩, -⟩ := hS0
  go_region_held3 (fun W => W.cell? ⟨w.heap.size, 0, none⟩ = some (.string a) ∧ W.cell? ⟨w.heap.size, 1, none⟩ = some (.string b) ∧ W.cell? ⟨p, 0, none⟩ = some (.int .i64 M)) (first | assumption | go_keep) (first
    | (go_at_call 15; refine (size_at a b n _ hn hb).mono ?_; rintro e w3 ⟨rfl, b3⟩; have hS3 := hk.out _ _ rfl ((Still.drew _).below.trans b3); obtain ⟨hS4, bw⟩ := hS3; replace bw := Lib.hid bw))
  go_wp2_with fail
  go_ret
  exact ⟨rfl, bw.out⟩
end

/-- A Table at which Insert is at work. -/
structure TbRaw (w0 w : World) (p B : Nat) (a b : ByteArray) (M u g : Nat) (X : Option Addr) (L c : Nat) (xs : List Value) : Prop where
  cell : w.heap[p]? = some (.cells #[.int .i64 M, .int .i64 u, .int .u64 g, .slice X L c] 53 (0, 0))
  rd : Rd w X xs
  fr : Fr (fun k => k = p) w0 w
  far : ∀ a, X = some a → a.block ≠ p
  bx : w.cell? ⟨B, 0, none⟩ = some (.string a) ∧ w.cell? ⟨B, 1, none⟩ = some (.string b)
  bp : B ≠ p
section
variable {w0 w w' : World} {p B : Nat} {a b : ByteArray} {M u g : Nat} {X : Option Addr} {L c : Nat} {xs : List Value}
theorem TbRaw.step (h : TbRaw w0 w p B a b M u g X L c xs) {u' g' : Nat} {X' : Option Addr} {L' c' : Nat} {xs' : List Value} (F : Fr (fun k => k = p) w w') (hc : w'.heap[p]? = some (.cells #[.int .i64 M, .int .i64 u', .int .u64 g', .slice X' L' c'] 53 (0, 0))) (hr : Rd w X' xs') (hX : ∀ a, X' = some a → a.block ≠ p) :
    TbRaw w0 w' p B a b M u' g' X' L' c' xs' :=
  ⟨hc, hr.fr F (fun _ a ha e => hX a ha e), h.fr.trans F, hX, ⟨(F.cell (p := ⟨B, 0, none⟩) (World.block_lt_of_cell? w _ h.bx.1) h.bp).trans h.bx.1, (F.cell (p := ⟨B, 1, none⟩) (World.block_lt_of_cell? w _ h.bx.2) h.bp).trans h.bx.2⟩, h.bp⟩
theorem TbRaw.below (h : TbRaw w0 w p B a b M u g X L c xs) (hb : Below w.heap.size w w') : TbRaw w0 w' p B a b M u g X L c xs :=
  h.step (Fr.of_below hb _) (heap_fr h.cell (Fr.of_below hb NoS) (fun x => x)) h.rd h.far
theorem TbRaw.set1 (h : TbRaw w0 w p B a b M u g X L c xs) (u' : Nat) : TbRaw w0 (w.setCell ⟨p, 1, none⟩ (.int .i64 u')) p B a b M u' g X L c xs :=
  h.step ((Fr.refl (fun k => k = p) w).setCell (p := ⟨p, 1, none⟩) (fun _ => rfl) _) (heap_setCell_same w p 1 _ _ _ h.cell) h.rd h.far
theorem TbRaw.set2 (h : TbRaw w0 w p B a b M u g X L c xs) (g' : Nat) : TbRaw w0 (w.setCell ⟨p, 2, none⟩ (.int .u64 g')) p B a b M u g' X L c xs :=
  h.step ((Fr.refl (fun k => k = p) w).setCell (p := ⟨p, 2, none⟩) (fun _ => rfl) _) (heap_setCell_same w p 2 _ _ _ h.cell) h.rd h.far
theorem TbRaw.set3 (h : TbRaw w0 w p B a b M u g X L c xs) {X' : Option Addr} {L' c' : Nat} {xs' : List Value} (hr : Rd w X' xs') (hX : ∀ a, X' = some a → a.block ≠ p) : TbRaw w0 (w.setCell ⟨p, 3, none⟩ (.slice X' L' c')) p B a b M u g X' L' c' xs' :=
  h.step ((Fr.refl (fun k => k = p) w).setCell (p := ⟨p, 3, none⟩) (fun _ => rfl) _) (heap_setCell_same w p 3 _ _ _ h.cell) hr hX
end
def lenAt (w : World) (p : Nat) : Nat := match w.cell? ⟨p, 3, none⟩ with | some (.slice _ m _) => m | _ => 0
theorem lenAt_raw {w0 w : World} {p B : Nat} {a b : ByteArray} {M u g : Nat} {X : Option Addr} {L c : Nat} {xs : List Value} (h : TbRaw w0 w p B a b M u g X L c xs) : lenAt w p = L := by
  unfold lenAt; rw [wrote_cell h.cell 3 _ rfl]; rfl

section
variable {w w' : World} {p : Nat} {A : Option Addr} {c : Nat} {t : Tb}
set_option maxRecDepth 100000 in
set_option maxHeartbeats 8000000 in
theorem tins_yes (h : IsTb w p A c t) (a b : ByteArray) (n : Nat) (hn : a.size + b.size + 32 = n) (hm : n ≤ t.most) (hF : t.F.length < 1000000) : Calls Try.prog 10 #[.pointer (some ⟨p, 0, none⟩), .agg #[.string a, .string b]] w fun e w' => e = .returned (.bool true) ∧ ∃ A' c', IsTb w' p A' c' (t.ins ⟨a, b⟩) ∧ Fr (OnB p A) w w' ∧ Next w A A' := by
  have c0 := wrote_cell h.cell 0 _ rfl
  have hlt := h.lt
  have hmost := h.most
  have hused := h.ok.used
  have hlen := t.len_add h.ok
  obtain ⟨M, hM⟩ : ∃ M, t.most = M := ⟨_, rfl⟩
  obtain ⟨l, hl⟩ : ∃ l, t.l = l := ⟨_, rfl⟩
  obtain ⟨G, hG⟩ : ∃ G, t.gone = G := ⟨_, rfl⟩
  obtain ⟨K, hK⟩ : ∃ K, tcut (M - n) l = K := ⟨_, rfl⟩
  have b1 : decide ((M : Int) < (n : Int)) = false := decide_eq_false (by omega)
  have b1' : decide (M < n) = false := decide_eq_false (by omega)
  have hb : n ≤ 1000000 := by omega
  have HR : Hid (∀ o W, o = Obj.cells #[.string a, .string b] 28 → Below (w.alloc o).heap.size (w.alloc o) W → TbRaw w W p w.heap.size a b M (tsum l) G A l.length c (fdv l)) := Lib.hid (fun o W ho hB => by
    subst ho
    have bo : Below w.heap.size w (w.alloc (Obj.cells #[.string a, .string b] 28)) := (Below.refl _ w).alloc (Nat.le_refl _) _
    have hI := (h.below bo).below hB
    refine ⟨?_, ?_, Fr.of_below (bo.trans (hB.mono (by simp))) _, h.ne, ⟨?_, ?_⟩, by omega⟩
    · have := hI.cell
      rw [hM, hG, hl] at this
      unfold Tb.used at this
      rw [hl] at this
      exact this
    · have := hI.rd
      rw [hl] at this
      exact this
    · rw [hB.cell (p := ⟨w.heap.size, 0, none⟩) (by simp), World.cell?_alloc_new]; rfl
    · rw [hB.cell (p := ⟨w.heap.size, 1, none⟩) (by simp), World.cell?_alloc_new]; rfl)
  rw [hM] at c0 hmost hused
  unfold Tb.used at hused
  rw [hl] at hused hlen
  rw [hG] at hlen
  have hcap := h.cap
  have hnc := h.nilcap
  rw [hl] at hcap
  have HI := Lib.hid h
  replace hM := Lib.hid hM
  replace hl := Lib.hid hl
  replace hG := Lib.hid hG
  replace hK := Lib.hid hK
  replace hm := Lib.hid hm
  clear h c0
  have HR0 := HR.out _ _ rfl (Below.refl _ _)
  have x0 := HR0.bx.1
  have x1 := HR0.bx.2
  have x2 := wrote_cell HR0.cell 0 _ rfl
  clear HR0
  go_enter Try.func10, Try.ntmps10
  go_wp2_with fail
  go_region_held3 (fun W => W.cell? ⟨w.heap.size, 0, none⟩ = some (.string a) ∧ W.cell? ⟨w.heap.size, 1, none⟩ = some (.string b) ∧ W.cell? ⟨p, 0, none⟩ = some (.int .i64 M)) (first | assumption | go_keep) (first
    | (go_at_call 15; refine (size_at a b n _ hn hb).mono ?_; rintro e w3 ⟨rfl, b3⟩; have R3 := HR.out _ _ rfl ((Still.drew _).below.trans b3); have hS4 : w3.cell? ⟨w.heap.size, 0, none⟩ = some (.string a) ∧ w3.cell? ⟨w.heap.size, 1, none⟩ = some (.string b) ∧ w3.cell? ⟨p, 0, none⟩ = some (.int .i64 M) := ⟨R3.bx.1, R3.bx.2, wrote_cell R3.cell 0 _ rfl⟩; replace R3 := Lib.hid R3))
  clear x0 x1 x2 HR
  obtain ⟨y0, y1, y2⟩ := hS4
  clear y2
  have y3 := wrote_cell R3.out.cell 1 _ rfl
  have y4 := frozen_of_row w3 p 1 _ _ R3.out.cell
  go_wp2_with fail
  obtain ⟨u0, hu0⟩ : ∃ u0, tsum l = u0 := ⟨_, rfl⟩
  obtain ⟨u1, hu1⟩ : ∃ u1, u0 + n = u1 := ⟨_, rfl⟩
  have hu2 : (u0 : Int) + (n : Int) = (u1 : Int) := by omega
  have hu1b : u1 ≤ 2000000 := by omega
  have hwu : IntKind.i64.wrap (u1 : Int) = (u1 : Int) := by rw [IntKind.wrap_i64]; omega
  rw [hu0] at R3 y3
  replace hu0 := Lib.hid hu0
  replace hu1 := Lib.hid hu1
  go_cut [] from 16 to 24 (fun wx => Hid (TbRaw w wx p w.heap.size a b M u1 G A l.length c (fdv l)))
  case first =>
    go_region_law (first
      | (go_simp; go_at_call 15; refine (size_at a b n _ hn hb).mono ?_; rintro e w4 ⟨rfl, b4⟩; have R4 := R3.out.below ((Still.drew w3).below.trans b4); have z3 := wrote_cell R4.cell 1 _ rfl; have z4 := frozen_of_row w4 p 1 _ _ R4.cell; have R5 := Lib.hid (R4.set1 u1); clear R4))
    all_goals (go_wp2_with fail; go_meet; exact R5)
  case rest =>
    replace hcut := Lib.hid hcut.out
    clear hwu y0 y1 y3 y4 R3
    have hl6 : l.length ≤ 1000000 := by omega
    have hG6 : G + l.length ≤ 1000000 := by omega
    go_wp2_with fail
    go_loopw [] (fun wr => ∃ (j : Nat) (X : Option Addr) (L cx u g : Nat), j ≤ l.length ∧ Hid (TbRaw w wr p w.heap.size a b M u g X L cx (fdv (l.drop j)) ∧ (l.drop j).length = L ∧ u = tsum (l.drop j) + n ∧ g = G + j ∧ L ≤ cx ∧ cx ≤ maxLen ∧ (X = none → cx = 0) ∧ j + tcut (M - n) (l.drop j) = K)) (fun wr => lenAt wr p)
    case atStart => exact ⟨0, A, l.length, c, u1, G, Nat.zero_le _, Lib.hid ⟨hcut.out, rfl, by rw [List.drop_zero, hu0.out, hu1.out], rfl, hcap.1, hcap.2, hnc, by rw [List.drop_zero, Nat.zero_add]; exact hK.out⟩⟩
    case round =>
      clear hcut
      obtain ⟨j, X, L, cx, u, g, hj, HJ⟩ := hrel
      obtain ⟨R, hL, hu, hg, hLc, hcx, hXn, hKj⟩ := HJ.out
      have hsl := tsum_drop_le l j
      have hub : u ≤ 2000000 := by have := hu0.out; have := hu1.out; omega
      have hgb : g ≤ 1000000 := by omega
      have k0 := wrote_cell R.cell 0 _ rfl
      have k1 := wrote_cell R.cell 1 _ rfl
      by_cases hMu : M < u
      · have d1 : decide (M < u) = true := decide_eq_true hMu
        have d1' : decide ((M : Int) < (u : Int)) = true := decide_eq_true (by omega)
        obtain ⟨f0, m, hfm, hKm⟩ := tcut_step (M - n) (l.drop j) (by have := hm.out; have := hM.out; omega)
        obtain ⟨L', hL'⟩ : ∃ L', m.length = L' := ⟨_, rfl⟩
        have hLL : L = L' + 1 := by rw [← hL, hfm, List.length_cons, hL']
        have hm1 : l.drop (j + 1) = m := by rw [← List.drop_drop, hfm]; rfl
        obtain ⟨gb, off, rfl, z0, z1⟩ := load_fd R.rd (k := 0) (by rw [hfm]; simp)
        simp only [hfm, List.getElem_cons_zero, Nat.zero_mul, Nat.add_zero] at z0 z1
        obtain ⟨fa, fb⟩ := f0
        obtain ⟨s0, hs0⟩ : ∃ s0, fa.size + fb.size + 32 = s0 := ⟨_, rfl⟩
        have hts : tsum (l.drop j) = s0 + tsum m := by rw [hfm, tsum_cons, ← hs0]; rfl
        obtain ⟨u2, hu2x⟩ : ∃ u2, u - s0 = u2 := ⟨_, rfl⟩
        have hu3 : (u : Int) - (s0 : Int) = (u2 : Int) := by omega
        have hwu : IntKind.i64.wrap (u2 : Int) = (u2 : Int) := by rw [IntKind.wrap_i64]; omega
        obtain ⟨g2, hg2⟩ : ∃ g2, g + 1 = g2 := ⟨_, rfl⟩
        have hg3 : (g : Int) + 1 = (g2 : Int) := by omega
        have hjl : j < l.length := by
          have := congrArg List.length hfm
          simp at this; omega
        have hs0b : s0 ≤ 1000000 := by have := hu0.out; omega
        have k3 := wrote_cell R.cell 3 _ rfl
        have hL0 : 0 < L := by omega
        have hX : ∃ X' c', (∀ W : World, (Instr.sliceAt 22 (.slice (some ⟨gb, off, none⟩) L cx) (some (.int .i64 1)) none none).run Try.prog W = .ok (.slice X' L' c') W) ∧ (∀ a, X' = some a → a.block ≠ p) ∧ L' ≤ c' ∧ c' ≤ maxLen ∧ (X' = none → c' = 0) ∧ ∀ W, Rd W (some ⟨gb, off, none⟩) (fdv (l.drop j)) → Rd W X' (fdv m) := by
          refine ⟨_, _, cutS_l Try.underlying22 infoF (some ⟨gb, off, none⟩) L cx 1 L' 1 rfl (by omega) hLc, fun a ha => ?_, by omega, by omega, fun e => ?_, fun W hW => ?_⟩
          · split at ha
            · exact R.far a ha
            · simp only [Option.map_some, Option.some.injEq] at ha
              subst ha
              rw [WideShapes.add_plain]
              exact R.far ⟨gb, off, none⟩ rfl
          · split at e
            · cases e
            · cases e
          · have := hW.dropS (k := 1) (len := L) (cap := cx) (s := 2) (by omega) hLc (by rw [fdv_len, hL])
            rw [← fdv_drop _ 1, hfm] at this
            exact this
        obtain ⟨X', c', hsli, hX1, hX2, hX3, hX4, hX5⟩ := hX
        have hNX := Lib.hid (⟨hX1, hX2, hX3, hX4, hX5⟩ : (∀ a, X' = some a → a.block ≠ p) ∧ L' ≤ c' ∧ c' ≤ maxLen ∧ (X' = none → c' = 0) ∧ ∀ W, Rd W (some ⟨gb, off, none⟩) (fdv (l.drop j)) → Rd W X' (fdv m))
        have hfin : Hid (j + 1 ≤ l.length ∧ (l.drop (j + 1)).length = L' ∧ u2 = tsum (l.drop (j + 1)) + n ∧ g2 = G + (j + 1) ∧ (j + 1) + tcut (M - n) (l.drop (j + 1)) = K ∧ l.drop (j + 1) = m) := Lib.hid (by
          rw [hm1]
          exact ⟨hjl, hL', by omega, by omega, by omega, rfl⟩)
        have hmeas : Hid (L' < L) := Lib.hid (by omega)
        have RQ := Lib.hid (fun q => R.below (Still.drewN wr q).below)
        have hmL := Lib.hid (lenAt_raw R)
        replace hs0 := Lib.hid hs0
        replace hLL := Lib.hid hLL
        replace hfm := Lib.hid hfm
        clear HJ hL hu hg hLc hcx hXn hKj hKm hm1 hL' hts hu2x hg2 hjl hX1 hX2 hX3 hX4 hX5 R
        go_wp2_with fail
        go_big_quiet (fail)
        go_wp2_with fail
        replace RQ := Lib.hid (RQ.out nq)
        go_cut [] from 42 to 55 (fun wx => Hid (TbRaw w wx p w.heap.size a b M u2 g (some ⟨gb, off, none⟩) L cx (fdv (l.drop j))))
        case first =>
          go_region_law (first
            | (go_simp; go_at_call 15; refine (size_at fa fb s0 _ hs0.out hs0b).mono ?_; rintro e w4 ⟨rfl, b4⟩; have R4 := RQ.out.below ((Still.drewN _ 1).below.trans b4); have q3 := wrote_cell R4.cell 1 _ rfl; have q4 := frozen_of_row w4 p 1 _ _ R4.cell; have R5 := Lib.hid (R4.set1 u2); clear R4))
          all_goals (go_wp2_with fail; go_meet; exact R5)
        case rest =>
          replace hcut := Lib.hid hcut.out
          clear k0 k1 k3 z0 z1 RQ hs0b hu3 hwu
          have v2 := wrote_cell hcut.out.cell 2 _ rfl
          have e2 := frozen_of_row _ p 2 _ _ hcut.out.cell
          have v3 := wrote_cell (hcut.out.set2 g2).cell 3 _ rfl
          have e3 := frozen_of_row _ p 3 _ _ (hcut.out.set2 g2).cell
          have R7 := Lib.hid ((hcut.out.set2 g2).set3 (c' := c') (L' := L') (hNX.out.2.2.2.2 _ (hcut.out.set2 g2).rd) hNX.out.1)
          clear hcut
          go_wp2_with fail
          go_roundw
          case rel => exact ⟨j + 1, X', L', c', u2, g2, hfin.out.1, Lib.hid ⟨by rw [hfin.out.2.2.2.2.2]; exact R7.out, hfin.out.2.1, hfin.out.2.2.1, hfin.out.2.2.2.1, hNX.out.2.1, hNX.out.2.2.1, hNX.out.2.2.2.1, hfin.out.2.2.2.2.1⟩⟩
          case measure =>
            rw [lenAt_raw R7.out, hmL.out]; exact hmeas.out
      · have d1 : decide (M < u) = false := decide_eq_false hMu
        have d1' : decide ((M : Int) < (u : Int)) = false := decide_eq_false (by omega)
        have hjK : j = K := by
          rw [tcut_stop _ _ (by have := hm.out; have := hM.out; omega)] at hKj
          omega
        have hLb : L ≤ 1000000 := by rw [← hL, List.length_drop]; omega
        have CL : Hid (∀ W, Below wr.heap.size wr W → Calls Try.prog 26 #[.slice X L cx] W (RetF W (l.drop j))) := Lib.hid (fun W bW => by
          have := clonef_any (l.drop j) X cx W (R.rd.below bW) hXn (by rw [hL]; omega)
          rwa [hL] at this)
        have HF : Hid (∀ A3 c3 w5, Below wr.heap.size wr w5 → w5.ownsRow wr.heap.size 28 2 (.slice A3 (L + 1) c3) (L + 1) (fdv (l.drop j) ++ [.string a, .string b]) → (w5.cell? ⟨p, 3, none⟩ = some (.slice X L cx) ∧ w5.frozen? ⟨p, 3, none⟩ = false) ∧
            IsTb (w5.setCell ⟨p, 3, none⟩ (.slice A3 (L + 1) c3)) p A3 c3 (t.ins ⟨a, b⟩) ∧ Fr (OnB p A) w (w5.setCell ⟨p, 3, none⟩ (.slice A3 (L + 1) c3)) ∧ Next w A A3) := Lib.hid (fun A3 c3 w5 b5 o5 => by
          have R5 := R.below b5
          have hA3 : ∀ a, A3 = some a → wr.heap.size ≤ a.block := fun a ha => by
            subst ha
            rcases ownS_cases o5 with ⟨h1, _⟩ | ⟨g, h1, h2, _⟩
            · cases h1
            · injection h1 with h1; subst h1; exact h2
          have hpw : p < wr.heap.size := heap_lt R.cell
          have R6 := R5.set3 (X' := A3) (L' := L + 1) (c' := c3) (xs' := []) (Rd.nil _ _) (fun a ha => by have := hA3 a ha; omega)
          have hins := t.ins_l ⟨a, b⟩ HI.out.ok (by show a.size + b.size + 32 ≤ t.most; rw [hn]; exact hm.out)
          have hsz : Fd.size ⟨a, b⟩ = n := hn
          have hI : (t.ins ⟨a, b⟩).l = l.drop j ++ [⟨a, b⟩] := by
            rw [hins, hl.out, hsz, hM.out, hK.out, ← hjK]
          have hy : t.ins ⟨a, b⟩ = ⟨t.most, t.F ++ [⟨a, b⟩], G + j⟩ := by
            rw [t.ins_yes ⟨a, b⟩ (by rw [hsz]; exact hm.out), hsz, hl.out, hM.out, hK.out, hG.out, hjK]
          have hlen2 : (t.ins ⟨a, b⟩).l.length = L + 1 := by rw [hI, List.length_append, hL]; rfl
          refine ⟨⟨wrote_cell R5.cell 3 _ rfl, frozen_of_row _ p 3 _ _ R5.cell⟩, ⟨?_, ?_, t.ins_ok ⟨a, b⟩ HI.out.ok, ?_, ?_⟩, ?_, ?_⟩
          · rw [R6.cell, hlen2]
            have h1 : (t.ins ⟨a, b⟩).used = u := by
              unfold Tb.used
              rw [hI, tsum_snoc, hsz, hu]
            rw [h1, t.ins_most, hM.out]
            rw [show (t.ins ⟨a, b⟩).gone = g from by rw [hy, hg]]
          · rw [hlen2, hI, fdv_append]
            have := own_base (base2 := 0) o5 (fun _ _ => Nat.zero_le _)
            exact own_fr this ((Fr.refl (fun k => k = p) w5).setCell (p := ⟨p, 3, none⟩) (fun _ => rfl) _) (fun k hk e => by
              cases A3 with
              | none => cases hk
              | some a3 => injection hk with hk; have := hA3 a3 rfl; omega)
          · rw [hy]; simp; omega
          · rw [t.ins_most]; exact HI.out.most
          · exact R6.fr.mono (fun k hk _ => .inl hk)
          · intro a3 ha3
            have := hA3 a3 ha3
            have := R.fr.size
            exact .inr (by omega))
        have RQ := Lib.hid (fun q => R.below (Still.drewN wr q).below)
        have BQ := Lib.hid (fun q => (Still.drewN wr q).below)
        have k3 := wrote_cell R.cell 3 _ rfl
        have hsize := R.fr.size
        have hL6 := Lib.hid hL
        clear R HJ hL hu hg hLc hcx hXn hKj HI
        replace hjK := Lib.hid hjK
        go_wp2_with fail
        go_big_quiet (fail)
        go_wp2_with fail
        obtain ⟨W1, hW1⟩ : ∃ W1, wr.drewN nq = W1 := ⟨_, rfl⟩
        have R1 := Lib.hid (RQ.out nq)
        have B1 := Lib.hid (BQ.out nq)
        rw [hW1] at R1 B1 ⊢
        clear RQ BQ k0 k1 k3 hW1
        go_cut [] from 63 to 73 (fun wx => ∃ A3 c3, Hid (IsTb wx p A3 c3 (t.ins ⟨a, b⟩)) ∧ Hid (Fr (OnB p A) w wx) ∧ Hid (Next w A A3))
        case first =>
          have k3 := wrote_cell R1.out.cell 3 _ rfl
          have y0 := R1.out.bx.1
          have y1 := R1.out.bx.2
          have k3a : ∀ o, (W1.alloc o).cell? ⟨p, 3, none⟩ = some (.slice X L cx) := fun o => Lib.cell?_alloc_some o k3
          have y0a : ∀ o, (W1.alloc o).cell? ⟨w.heap.size, 0, none⟩ = some (.string a) := fun o => Lib.cell?_alloc_some o y0
          have y1a : ∀ o, (W1.alloc o).cell? ⟨w.heap.size, 1, none⟩ = some (.string b) := fun o => Lib.cell?_alloc_some o y1
          have BA : Below wr.heap.size wr W1.drew := B1.out.trans ((Still.drew W1).below.mono B1.out.size)
          have BB : ∀ o, Below wr.heap.size wr (W1.alloc o).drew := fun o => (B1.out.alloc B1.out.size o).trans ((Still.drew _).below.mono (B1.out.alloc B1.out.size o).size)
          have CLA := Lib.hid (CL.out _ BA)
          have CLB := Lib.hid (fun o => CL.out _ (BB o))
          go_region_law (first
            | (go_simp; go_at_call 26; refine CLA.out.mono ?_; rintro e w4 ⟨A4, c4, rfl, o4, b4⟩; have R4 := R1.out.below ((Still.drew W1).below.trans b4); have q0 := R4.bx.1; have q1 := R4.bx.2; replace b4 := Lib.hid (BA.trans (b4.mono BA.size)); rw [hL6.out] at o4 ⊢; replace o4 := Lib.hid (own_base (base2 := wr.heap.size) o4 (fun k hk => by have := (o4.lt k hk).1; have := BA.size; omega)); clear R4)
            | (go_simp; go_at_call 26; refine (CLB.out _).mono ?_; rintro e w4 ⟨A4, c4, rfl, o4, b4⟩; have l4 : Hid (∀ xs : List Value, xs = [.string a, .string b] → Rd w4 (some ⟨W1.heap.size, 0, none⟩) xs) := Lib.hid (by rintro xs rfl; exact ((Rd.fresh_mark W1 [.string a, .string b] _ _).drew).below b4); replace b4 := Lib.hid ((BB _).trans (b4.mono (BB _).size)); rw [hL6.out] at o4 ⊢; replace o4 := Lib.hid (own_base (base2 := wr.heap.size) o4 (fun k hk => by have := (o4.lt k hk).1; have := (BB (Obj.cells #[.string a, .string b] 0)).size; simp at *; omega)))
            | (refine step_appS rfl _ _ 22 rfl wr.heap.size 28 _ 2 32 infoF Try.underlying22 rfl (by decide) (.slice A4 L c4) L (fdv (l.drop j)) rfl (o4.out.alloc _) ⟨w4.heap.size, 0, none⟩ 1 1 [.string a, .string b] rfl rfl (Rd.fresh_mark w4 [.string a, .string b] _ _).cells (by intro u hu; simp at hu; rcases hu with rfl | rfl <;> rfl) (by unfold maxLen; omega) (by omega) (by have := b4.out.size; simp; omega) ?_; intro A3 c3 w5 ho5 hg5 _; have F5 := Fr.under ((b4.out).alloc b4.out.size _) ((b4.out).alloc b4.out.size _).size ((Fr.refl (fun q => (Value.slice A4 L c4).ownBlock = some q) _).grown hg5 (fun _ hq _ => hq)) (fun q hq _ => (o4.out.lt q hq).1); have H5 := HF.out A3 c3 w5 F5 ho5; obtain ⟨⟨v3, e3⟩, I5, FF5, N5⟩ := H5; replace I5 := Lib.hid I5; replace FF5 := Lib.hid FF5; replace N5 := Lib.hid N5; clear ho5 hg5 F5)
            | (refine step_appS rfl _ _ 22 rfl wr.heap.size 28 _ 2 32 infoF Try.underlying22 rfl (by decide) (.slice A4 L c4) L (fdv (l.drop j)) rfl (o4.out) ⟨W1.heap.size, 0, none⟩ 1 1 [.string a, .string b] rfl rfl (l4.out _ rfl).cells (by intro u hu; simp at hu; rcases hu with rfl | rfl <;> rfl) (by unfold maxLen; omega) (by omega) (b4.out.size) ?_; intro A3 c3 w5 ho5 hg5 _; have F5 := Fr.under (b4.out) b4.out.size ((Fr.refl (fun q => (Value.slice A4 L c4).ownBlock = some q) _).grown hg5 (fun _ hq _ => hq)) (fun q hq _ => (o4.out.lt q hq).1); have H5 := HF.out A3 c3 w5 F5 ho5; obtain ⟨⟨v3, e3⟩, I5, FF5, N5⟩ := H5; replace I5 := Lib.hid I5; replace FF5 := Lib.hid FF5; replace N5 := Lib.hid N5; clear ho5 hg5 F5))
          all_goals (go_wp2_with fail; go_meet; exact ⟨A3, c3, I5, FF5, N5⟩)
        case rest =>
          obtain ⟨A3, c3, I3, F3, N3⟩ := hcut
          go_wp2_with fail
          go_ret
          exact ⟨rfl, A3, c3, I3.out, F3.out, N3.out⟩
end
end Go.Proofs.Ytgcnhppafclnmaa
