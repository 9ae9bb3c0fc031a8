/- The document's Set: what it holds; Has, List, Below. -/
import Derived.Test.YtdhdnpagdflgpaaRsC
import Derived.Test.YtdhdnpagdflgpaaRsB
import Derived.Deep.CutRange
import Derived.Deep.Cut
import Derived.Deep.CutBlock
namespace Go.Proofs.Ytdhdnpagdflgpaa
open Go.RowKit

theorem infoU : (Try.prog.info? 29).map (fun i => (i.zero, i.size, i.bytes)) = some (some (.int .u64 0), 1, 8) := by kernel_rfl
def nv (l : List Nat) : List Value := l.map fun (x : Nat) => .int .u64 (x : Int)
@[simp] theorem nv_length (l : List Nat) : (nv l).length = l.length := by simp [nv]
theorem nv_append (l m : List Nat) : nv (l ++ m) = nv l ++ nv m := by simp [nv]
theorem nv_one (l : List Nat) : ∀ u ∈ nv l, u.oneCell' = true := by
  intro u hu; obtain ⟨_, _, rfl⟩ := List.mem_map.1 hu; rfl
theorem nv_take (l : List Nat) (k : Nat) : nv (l.take k) = (nv l).take k := by simp [nv, List.map_take]
theorem nv_drop (l : List Nat) (k : Nat) : nv (l.drop k) = (nv l).drop k := by simp [nv, List.map_drop]
/-- Block p is the document's Set; its numbers lie at A. -/
structure IsRn (w : World) (p : Nat) (A : Option Addr) (c : Nat) (r : RN) : Prop where
  cell : w.heap[p]? = some (.cells #[.int .i64 r.most, .slice A r.N.length c, .int .u64 r.fl] 45 (0, 0))
  rd : Rd w A (nv r.N)
  cap : r.N.length ≤ c ∧ c ≤ 9223372036854775807
  ne : ∀ a, A = some a → a.block ≠ p
  lt : ∀ a, A = some a → a.block < w.heap.size
  small : r.N.length ≤ 100
  tops : ∀ x ∈ r.N, x ≤ 4611686018427387903
  fl : r.fl ≤ 18446744073709551615
  most : r.most ≤ 64
section
variable {w w' : World} {p : Nat} {A : Option Addr} {c : Nat} {r : RN}
theorem IsRn.plt (h : IsRn w p A c r) : p < w.heap.size := heap_lt h.cell
theorem IsRn.on_lt (h : IsRn w p A c r) : ∀ k, OnB p A k → k < w.heap.size := by
  rintro k (rfl | ⟨a, ha, rfl⟩)
  · exact h.plt
  · exact h.lt a ha
theorem IsRn.fr {T : Nat → Prop} (h : IsRn w p A c r) (f : Fr T w w') (hT : ∀ k, OnB p A k → ¬ T k) : IsRn w' p A c r :=
  ⟨heap_fr h.cell f (hT p (.inl rfl)), h.rd.fr f (fun _ a ha => hT _ (.inr ⟨a, ha, rfl⟩)), h.cap, h.ne, fun a ha => Nat.lt_of_lt_of_le (h.lt a ha) f.size, h.small, h.tops, h.fl, h.most⟩
theorem IsRn.drewN (h : IsRn w p A c r) (k : Nat) : IsRn (w.drewN k) p A c r := h.fr ((Fr.refl NoS w).drewN k) (fun _ _ x => x)
theorem IsRn.below (h : IsRn w p A c r) (b : Below w.heap.size w w') : IsRn w' p A c r := h.fr (Fr.of_below b NoS) (fun _ _ x => x)
theorem IsRn.at_ (h : IsRn w p A c r) {k : Nat} (hk : k < r.N.length) : ∃ b off, A = some ⟨b, off, none⟩ ∧ w.cell? ⟨b, off + k, none⟩ = some (.int .u64 r.N[k]) := by
  obtain ⟨b, off, e, hc⟩ := h.rd (by simp; omega)
  exact ⟨b, off, e, hc k _ (by simp [nv, hk])⟩

theorem rmemN_take (N : List Nat) (k n : Nat) (hk : k < N.length) : rmemN (N.take (k + 1)) n = (rmemN (N.take k) n || decide (N[k] = n)) := by
  unfold rmemN
  rw [List.take_succ_eq_append_getElem hk, List.any_append, List.any_cons, List.any_nil, Bool.or_false]
set_option maxRecDepth 100000 in
set_option maxHeartbeats 2000000 in
theorem rhas_any (h : IsRn w p A c r) (n : Nat) (b : Bool) (hb : r.has n = b) : Calls Try.prog 20 #[.pointer (some ⟨p, 0, none⟩), .int .u64 n] w fun e w' => e = .returned (.bool b) ∧ w = w' := by
  have c1 := wrote_cell h.cell 1 _ rfl
  have c2 := wrote_cell h.cell 2 _ rfl
  have hs := h.small
  have H := Lib.hid h
  obtain ⟨m, hm⟩ : ∃ m, r.N.length = m := ⟨_, rfl⟩
  rw [hm] at c1 hs
  have hcap := h.cap
  rw [hm] at hcap
  replace hm := Lib.hid hm
  replace hb := Lib.hid hb
  obtain ⟨X, hX⟩ : ∃ X : Int, (n : Int) = X := ⟨_, rfl⟩
  rw [hX]
  obtain ⟨G, hG⟩ : ∃ X : Int, (r.fl : Int) = X := ⟨_, rfl⟩
  rw [hG] at c2
  have hfl : decide (n < r.fl) = decide (X < G) := by
    by_cases hx : n < r.fl
    · rw [decide_eq_true hx, decide_eq_true (by omega)]
    · rw [decide_eq_false hx, decide_eq_false (by omega)]
  replace hfl := Lib.hid hfl
  replace hX := Lib.hid hX
  clear h hG
  go_enter Try.func20, Try.ntmps20
  go_wp2_with fail
  go_loop [5] (fun i => ∃ k : Nat, k ≤ m ∧ i = .int .i64 k ∧ Hid (rmemN (r.N.take k) n = false)) (fun i => m - (intOf i).toNat)
  case atStart => exact ⟨0, by omega, rfl, Lib.hid rfl⟩
  case round =>
    obtain ⟨k, hk, rfl, HK⟩ := hrel
    by_cases hkm : k < m
    · have hkl : k < r.N.length := by rw [hm.out]; exact hkm
      obtain ⟨b0, off, rfl, g1⟩ := H.out.at_ hkl
      have hst := rmemN_take r.N k n hkl
      rw [HK.out, Bool.false_or] at hst
      obtain ⟨y, hy⟩ : ∃ y, r.N[k] = y := ⟨_, rfl⟩
      rw [hy] at g1 hst
      obtain ⟨Y, hY⟩ : ∃ X : Int, (y : Int) = X := ⟨_, rfl⟩
      rw [hY] at g1
      have hyn : Hid (y = n → r.has n = true) := Lib.hid (fun e => by
        have h1 : n ∈ r.N := by rw [← e, ← hy]; exact List.getElem_mem hkl
        have h2 := (rmemN_iff r.N n).2 h1
        unfold RN.has; rw [h2]; rfl)
      by_cases he : Y = X
      · have e1 : (Y == X) = true := beq_iff_eq.2 he
        have hbt : b = true := by rw [← hb.out]; exact hyn.out (by have := hX.out; omega)
        subst hbt
        replace he := Lib.hid he
        clear hst hy hY hkl
        go_wp2_with fail
        go_ret
        exact ⟨rfl, rfl⟩
      · rename_i aa; clear aa
        have e1 : (Y == X) = false := beq_eq_false_iff_ne.2 he
        have HK2 : Hid (rmemN (r.N.take (k + 1)) n = false) := Lib.hid (by rw [hst]; exact decide_eq_false (by have := hX.out; omega))
        replace he := Lib.hid he
        clear hst hy hY HK
        go_wp2_with fail
        go_round
        case rel => exact ⟨k + 1, by omega, by go_num, HK2⟩
        case measure => simp [intOf]; omega
    · obtain rfl : k = m := by omega
      have hbb : b = decide (X < G) := by
        rw [← hb.out, ← hfl.out]
        unfold RN.has
        have := HK.out
        rw [← hm.out, List.take_length] at this
        rw [this]; rfl
      obtain ⟨d, hd⟩ : ∃ d, decide (X < G) = d := ⟨_, rfl⟩
      rw [hd] at hbb
      subst hbb
      clear HK hfl hb
      go_wp2_with fail
      go_ret
      exact ⟨rfl, rfl⟩

theorem step_appS {P : Program} {w : World} {ops : Array Oper} {o : Oper} {a : Act} {K : Act → World → Prop} {Q : Exit → Act → World → Prop} {E : Prop} (hgd : o.guard = none) (s x : Operand) (t : TypeId)
    (ho : o.op = .call { callee := .builtin .append, args := #[s, x], argTypes := #[t, t] })
    (base : Nat) (e : TypeId) (z : Value) (size bytes : Nat) (hinfo : (P.info? e).map (fun i => (i.zero, i.size, i.bytes)) = some (some z, size, bytes)) (ht : P.underlying t = some (.slice e)) (hzs : z.cells.size = size) (hsz : 0 < size)
    (v : Value) (n : Nat) (xs : List Value) (hs : a.eval s = v) (hown : w.ownsRow base e size v n xs)
    (ad : Addr) (m c : Nat) (news : List Value) (hx : a.eval x = .slice (some ad) m c) (hl : news.length = m * size) (hr : ∀ j u, news[j]? = some u → w.cell? (ad.add j) = some u) (h1 : ∀ u ∈ news, u.oneCell' = true)
    (h63 : n + m ≤ maxLen) (hbytes : (n + m) * bytes ≤ 140737488355328) (hbase : base ≤ w.heap.size)
    (h : ∀ A' c' w', w'.ownsRow base e size (.slice A' (n + m) c') (n + m) (xs ++ news) → w.grownBy w' v.ownBlock →
      ((Value.slice A' (n + m) c').ownBlock = v.ownBlock ∨ (Value.slice A' (n + m) c').ownBlock = some w.heap.size) → K (a.put o.dst (.slice A' (n + m) c')) w') :
    if Region.wanted o (yielded ops a.tmps) = true then Oper.wp P o a w K Q else E := by
  have hw : Region.wanted o (yielded ops a.tmps) = true := by simp [Region.wanted, hgd]
  rw [if_pos hw]
  obtain ⟨i, hi, hz, hsize, hby⟩ := info_parts hinfo
  exact wp_appS s x t ho base e i z size bytes ht hi hz hsize hby hzs hsz v n xs hs hown ad m c news hx hl hr h1 h63 hbytes hbase h
theorem rlst_drop (N : List Nat) (q : Nat) (hq : q < N.length) : rlst (N.drop q) = wpush (rlst (N.drop (q + 1))) N[q] := by
  rw [List.drop_eq_getElem_cons hq]; rfl
theorem wpush_nil (n : Nat) : wpush [] n = [⟨n, n⟩] := rfl
theorem wpush_at (W : List Rg) (n k : Nat) (y : Rg) (hk : W.length = k + 1) (hy : W[k]? = some y) : wpush W n = if y.lo = n + 1 then W.set k ⟨n, y.hi⟩ else W ++ [⟨n, n⟩] := by
  have hg : W.getLast? = some y := by rw [List.getLast?_eq_getElem?, hk]; exact hy
  unfold wpush
  rw [hg]
  simp only
  split
  · obtain ⟨V, hV⟩ := List.getLast?_eq_some_iff.1 hg
    have hVl : V.length = k := by rw [hV] at hk; simpa using hk
    rw [hV, List.set_append_right _ _ (by omega), hVl, Nat.sub_self]
    simp
  · rfl

set_option maxRecDepth 100000 in
set_option maxHeartbeats 8000000 in
theorem rlist_any (h : IsRn w p A c r) (l : List Rg) (n : Nat) (hl : rlst r.N = l) (hn : l.length = n) : Calls Try.prog 19 #[.pointer (some ⟨p, 0, none⟩)] w fun e w' => ∃ Ao co, e = .returned (.slice Ao n co) ∧ w'.ownsRow w.heap.size 33 2 (.slice Ao n co) n (rgv l) ∧ Below w.heap.size w w' := by
  have c1 := wrote_cell h.cell 1 _ rfl
  have hs := h.small
  have H := Lib.hid h
  obtain ⟨m, hm⟩ : ∃ m, r.N.length = m := ⟨_, rfl⟩
  have hcap := h.cap
  rw [hm] at c1 hs hcap
  replace hm := Lib.hid hm
  replace hl := Lib.hid hl
  replace hn := Lib.hid hn
  clear h
  go_enter Try.func19, Try.ntmps19
  go_wp2_with fail
  go_loopw [3, 4, 5] (fun s i _ wr => ∃ (q n : Nat) (Ao : Option Addr) (co : Nat), q ≤ m ∧ n ≤ 100 ∧ i = .int .i64 ((q : Int) - 1) ∧ s = .slice Ao n co ∧ Hid (wr.ownsRow w.heap.size 33 2 (.slice Ao n co) n (rgv (rlst (r.N.drop q))) ∧ (rlst (r.N.drop q)).length = n ∧ Below w.heap.size w wr)) (fun _ i _ _ => (intOf i + 1).toNat)
  case atStart => exact ⟨m, 0, none, 0, by omega, by omega, by go_num, rfl, Lib.hid (by
    have e : r.N.drop m = [] := List.drop_eq_nil_of_le (by rw [hm.out]; exact Nat.le_refl _)
    rw [e]
    exact ⟨World.ownsRow_nil _ _ _ _, rfl, Below.refl _ _⟩)⟩
  case round =>
    obtain ⟨q, n', Ao, co, hq, hn', rfl, rfl, HS⟩ := hrel
    rcases Nat.eq_zero_or_pos q with hq0 | hq0
    · subst hq0
      have e : rlst (r.N.drop 0) = l := by rw [List.drop_zero, hl.out]
      rw [e] at HS
      obtain rfl : n' = n := by rw [← HS.out.2.1, hn.out]
      go_wp2_with fail
      go_ret
      exact ⟨Ao, co, rfl, HS.out.1, HS.out.2.2⟩
    · rename_i aa; clear aa
      obtain ⟨i, rfl⟩ : ∃ i, q = i + 1 := ⟨q - 1, by omega⟩
      have hi1 : ((i + 1 : Nat) : Int) - 1 = (i : Int) := by omega
      have hil : i < r.N.length := by rw [hm.out]; omega
      obtain ⟨b, off, rfl, g0⟩ := H.out.at_ hil
      have hbl := H.out.lt _ rfl
      have HW : Hid (∀ W, Below w.heap.size w W → W.cell? ⟨p, 1, none⟩ = some (.slice (some ⟨b, off, none⟩) m c) ∧ W.cell? ⟨b, off + i, none⟩ = some (.int .u64 r.N[i])) := Lib.hid (fun W bW => ⟨by rw [bW.cell (p := ⟨p, 1, none⟩) H.out.plt]; exact c1, by rw [bW.cell (p := ⟨b, off + i, none⟩) hbl]; exact g0⟩)
      have g1 := (HW.out _ HS.out.2.2).2
      have d1 : wr.cell? ⟨p, 1, none⟩ = some (.slice (some ⟨b, off, none⟩) m c) := by rw [HS.out.2.2.cell (p := ⟨p, 1, none⟩) H.out.plt]; exact c1
      have hst := rlst_drop r.N i hil
      have hxt := H.out.tops _ (List.getElem_mem hil)
      obtain ⟨x, hx⟩ : ∃ x, r.N[i] = x := ⟨_, rfl⟩
      rw [hx] at g1 g0 hst hxt HW
      clear hx
      obtain ⟨W, hW⟩ : ∃ W, rlst (r.N.drop (i + 1)) = W := ⟨_, rfl⟩
      rw [hW] at hst HS
      replace hW := Lib.hid hW
      obtain ⟨o, hWl, bel⟩ := HS.out
      clear HS
      have hwl : (rlst (r.N.drop i)).length ≤ 100 := by have := rlst_len (r.N.drop i); rw [List.length_drop] at this; have := H.out.small; omega
      have hxw : (x : Int) + 1 ≤ 4611686018427387904 := by omega
      have hwx : IntKind.u64.wrap ((x : Int) + 1) = (x : Int) + 1 := by rw [IntKind.wrap_u64]; omega
      have push : Hid (∀ V, wpush W x = W ++ [⟨x, x⟩] → V = wpush W x → V.length ≤ 100 → ∀ A' c' w', w'.ownsRow w.heap.size 33 2 (.slice A' (n' + 1) c') (n' + 1) (rgv W ++ [.int .u64 x, .int .u64 x]) → Below w.heap.size w w' → w'.ownsRow w.heap.size 33 2 (.slice A' (n' + 1) c') (n' + 1) (rgv V) ∧ V.length = n' + 1 ∧ Below w.heap.size w w') := Lib.hid (fun V hp hV _ A' c' w' o b => by
        rw [hV, hp, rgv_append]
        exact ⟨o, by rw [List.length_append, hWl]; rfl, b⟩)
      have hwp : Hid (rlst (r.N.drop i) = wpush W x) := Lib.hid hst
      have hsz := bel.size
      have hib0 : (0 : Int) ≤ (i : Int) := by omega
      have hib1 : (i : Int) < (m : Int) := by omega
      have B0 : Hid (∀ k o, Below w.heap.size w ((wr.drewN k).drew.alloc o) ∧ w.heap.size ≤ ((wr.drewN k).drew.alloc o).heap.size) := Lib.hid (fun k o => by
        have h1 : Below w.heap.size w (wr.drewN k).drew := bel.trans (((Still.drewN wr k).trans (Still.drew _)).below.mono hsz)
        have h2 : w.heap.size ≤ (wr.drewN k).drew.heap.size := hsz
        exact ⟨h1.trans (((Below.refl _ _).alloc (Nat.le_refl _) o).mono h2), by simp; omega⟩)
      replace hWl := Lib.hid hWl
      replace bel := Lib.hid bel
      rcases Nat.eq_zero_or_pos n' with h0 | h0
      · subst h0
        obtain rfl : W = [] := List.eq_nil_of_length_eq_zero hWl.out
        have o' := Lib.hid o
        have O0 : Hid (∀ kk, (wr.drewN kk).drew.ownsRow w.heap.size 33 2 (.slice Ao 0 co) 0 (rgv [])) := Lib.hid (fun k => o)
        clear o hst
        have S0 : Hid (∀ k, ((wr.drewN k).drew.cell? ⟨p, 1, none⟩ = some (.slice (some ⟨b, off, none⟩) m c)) ∧ (wr.drewN k).drew.cell? ⟨b, off + i, none⟩ = some (.int .u64 x)) := Lib.hid (fun k => ⟨d1, g1⟩)
        go_wp2_with fail
        go_big_quiet (fail)
        go_wp2_with fail
        go_region_held3 (fun W => W.cell? ⟨p, 1, none⟩ = some (.slice (some ⟨b, off, none⟩) m c) ∧ W.cell? ⟨b, off + i, none⟩ = some (.int .u64 x)) (first | exact S0.out _ | exact HW.out _ (by assumption) | go_keep) (first
          | ((refine step_appS rfl _ _ 30 rfl w.heap.size 33 (.agg #[.int .u64 0, .int .u64 0]) 2 16 infoR Try.underlying30 rfl (by decide) (.slice Ao 0 co) 0 (rgv []) rfl ((O0.out _).alloc _) _ 1 _ [.int .u64 x, .int .u64 x] rfl rfl (Rd.fresh_to (by simp) [.int .u64 x, .int .u64 x] _ _).cells (by intro u hu; simp at hu; subst hu; rfl) (by unfold maxLen; omega) (by omega) (B0.out _ _).2 ?_); intro A1 c1' w2 ho2 hg2 _; have hb2 : Below w.heap.size w w2 := (B0.out _ _).1.grown hg2 (B0.out _ _).2 (fun k hk => (o'.out.lt k hk).1); obtain ⟨r1, r2, r3⟩ := push.out _ rfl hwp.out hwl A1 c1' w2 ho2 hb2; replace r1 := Lib.hid r1; replace r2 := Lib.hid r2; replace r3 := Lib.hid r3; clear ho2 hg2))
        go_wp2_with fail
        go_roundw
        case rel => exact ⟨i, 0 + 1, A1, c1', by omega, by have := r2.out; omega, by go_num, rfl, Lib.hid ⟨r1.out, r2.out, r3.out⟩⟩
        case measure => simp [intOf] <;> omega
      · obtain ⟨k, rfl⟩ : ∃ k, n' = k + 1 := ⟨n' - 1, by omega⟩
        have hk1 : ((k + 1 : Nat) : Int) - 1 = (k : Int) := by omega
        have hk0 : (0 : Int) ≤ (k : Int) := by omega
        have hkd : decide ((0 : Int) ≤ (k : Int)) = true := decide_eq_true hk0
        have hk2 : (k : Int) < ((k + 1 : Nat) : Int) := by omega
        obtain ⟨y, hy⟩ : ∃ y, W[k]? = some y := ⟨_, List.getElem?_eq_getElem (by rw [hWl.out]; omega)⟩
        have o1 := Lib.hid o
        obtain ⟨g, go, hA, q0, _⟩ := load_rg (Rd.of_ownS o) (k := k) (by rw [hWl.out]; omega)
        have hg0 : Ao = some ⟨g, 0, none⟩ ∧ go = 0 := by
          rcases ownS_cases o with ⟨h1, _⟩ | ⟨g2, h1, _⟩
          · rw [h1] at hA; cases hA
          · rw [h1] at hA ⊢; injection hA with hA; injection hA with e1 e2; exact ⟨by rw [e1], e2.symm⟩
        obtain ⟨rfl, rfl⟩ := hg0
        have hye : (W[k]'(by rw [hWl.out]; omega)) = y := by
          have := hy
          rw [List.getElem?_eq_getElem (by rw [hWl.out]; omega)] at this
          injection this
        simp only [hye, Nat.zero_add] at q0
        have hfr := o.frozenAt (k * 2)
        have hcp : k + 1 ≤ co ∧ co ≤ 9223372036854775807 := by
          rcases ownS_cases o with ⟨h1, _⟩ | ⟨_, _, _, _, h1, h2⟩
          · cases h1
          · exact ⟨h1, by simpa [maxLen] using h2⟩
        obtain ⟨hcp1, hcp2⟩ := hcp
        replace hy := Lib.hid hy
        clear hye
        by_cases hne : y.lo = x + 1
        · have heq : ((y.lo : Int) == (x : Int) + 1) = true := beq_iff_eq.2 (by omega)
          have hjoin : Hid (∀ kk, ((wr.drewN kk).setCell ⟨g, k * 2, none⟩ (.int .u64 x)).ownsRow w.heap.size 33 2 (.slice (some ⟨g, 0, none⟩) (k + 1) co) (k + 1) (rgv (rlst (r.N.drop i))) ∧ (rlst (r.N.drop i)).length = k + 1 ∧ Below w.heap.size w ((wr.drewN kk).setCell ⟨g, k * 2, none⟩ (.int .u64 x))) := Lib.hid (fun kk => by
            have hkl : k < W.length := by rw [hWl.out]; omega
            have hgb : w.heap.size ≤ g := (o1.out.lt g rfl).1
            have ok : (wr.drewN kk).ownsRow w.heap.size 33 2 (.slice (some ⟨g, 0, none⟩) (k + 1) co) (k + 1) (rgv W) := o1.out
            have st := (ok.stored (k * 2) (.int .u64 x)).1
            rw [rgv_setlo W k x hkl] at st
            have hyk : W[k] = y := by have := hy.out; rw [List.getElem?_eq_getElem hkl] at this; injection this
            rw [hyk] at st
            rw [hwp.out, wpush_at W x k y hWl.out hy.out, if_pos hne]
            refine ⟨st, by rw [List.length_set, hWl.out], bel.out.trans ?_⟩
            have f : Fr (fun j => j = g) wr ((wr.drewN kk).setCell ⟨g, k * 2, none⟩ (.int .u64 x)) := ((Fr.refl (fun j => j = g) wr).drewN kk).setCell (p := ⟨g, k * 2, none⟩) (fun _ => rfl) _
            exact ⟨f.os, f.tape, f.output, f.size, fun j hj => f.block j (by omega) (by omega)⟩)
          have hne' := Lib.hid hne
          clear o hst push hne
          go_wp2_with fail
          go_big_quiet (fail)
          go_wp2_with fail
          go_roundw
          case rel => exact ⟨i, k + 1, _, co, by omega, by omega, by go_num, rfl, Lib.hid (hjoin.out _)⟩
          case measure => simp [intOf] <;> omega
        · have heq : ((y.lo : Int) == (x : Int) + 1) = false := beq_eq_false_iff_ne.2 (by omega)
          replace hne := Lib.hid hne
          have o' := Lib.hid o
          have O0 : Hid (∀ kk, (wr.drewN kk).drew.ownsRow w.heap.size 33 2 (.slice (some ⟨g, 0, none⟩) (k + 1) co) (k + 1) (rgv W)) := Lib.hid (fun k => o)
          clear o hst o1 hfr
          have S0 : Hid (∀ k, ((wr.drewN k).drew.cell? ⟨p, 1, none⟩ = some (.slice (some ⟨b, off, none⟩) m c)) ∧ (wr.drewN k).drew.cell? ⟨b, off + i, none⟩ = some (.int .u64 x)) := Lib.hid (fun k => ⟨d1, g1⟩)
          go_wp2_with fail
          go_big_quiet (fail)
          go_wp2_with fail
          go_region_held3 (fun W => W.cell? ⟨p, 1, none⟩ = some (.slice (some ⟨b, off, none⟩) m c) ∧ W.cell? ⟨b, off + i, none⟩ = some (.int .u64 x)) (first | exact S0.out _ | exact HW.out _ (by assumption) | go_keep) (first
            | ((refine step_appS rfl _ _ 30 rfl w.heap.size 33 (.agg #[.int .u64 0, .int .u64 0]) 2 16 infoR Try.underlying30 rfl (by decide) (.slice (some ⟨g, 0, none⟩) (k + 1) co) (k + 1) (rgv W) rfl ((O0.out _).alloc _) _ 1 _ [.int .u64 x, .int .u64 x] rfl rfl (Rd.fresh_to (by simp) [.int .u64 x, .int .u64 x] _ _).cells (by intro u hu; simp at hu; subst hu; rfl) (by unfold maxLen; omega) (by omega) (B0.out _ _).2 ?_); intro A1 c1' w2 ho2 hg2 _; have hb2 : Below w.heap.size w w2 := (B0.out _ _).1.grown hg2 (B0.out _ _).2 (fun k hk => (o'.out.lt k hk).1); obtain ⟨r1, r2, r3⟩ := push.out _ (by rw [wpush_at W x k y hWl.out hy.out, if_neg hne.out]) hwp.out hwl A1 c1' w2 ho2 hb2; replace r1 := Lib.hid r1; replace r2 := Lib.hid r2; replace r3 := Lib.hid r3; clear ho2 hg2))
          go_wp2_with fail
          go_roundw
          case rel => exact ⟨i, k + 1 + 1, A1, c1', by omega, by have := r2.out; omega, by go_num, rfl, Lib.hid ⟨r1.out, r2.out, r3.out⟩⟩
          case measure => simp [intOf] <;> omega
end
end Go.Proofs.Ytdhdnpagdflgpaa
