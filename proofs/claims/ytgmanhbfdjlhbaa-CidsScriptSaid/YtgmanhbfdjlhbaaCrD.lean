/- The document's pool: Add. -/
import Derived.Test.YtgmanhbfdjlhbaaCrC
import Derived.Deep.RegionLaw
namespace Go.Proofs.Ytgmanhbfdjlhbaa
open Go.RowKit

theorem step_appS {P : Program} {w : World} {ops : Array Oper} {o : Oper} {a : Act} {K : Act → World → Prop} {Q : Exit → Act → World → Prop} {E : Prop} (hgd : o.guard = none) (s x : Operand) (t : TypeId)
    (ho : o.op = .call { callee := .builtin .append, args := #[s, x], argTypes := #[t, t] })
    (base : Nat) (e : TypeId) (z : Value) (size bytes : Nat) (hinfo : (P.info? e).map (fun i => (i.zero, i.size, i.bytes)) = some (some z, size, bytes)) (ht : P.underlying t = some (.slice e)) (hzs : z.cells.size = size) (hsz : 0 < size)
    (v : Value) (n : Nat) (xs : List Value) (hs : a.eval s = v) (hown : w.ownsRow base e size v n xs)
    (ad : Addr) (m c : Nat) (news : List Value) (hx : a.eval x = .slice (some ad) m c) (hl : news.length = m * size) (hr : ∀ j u, news[j]? = some u → w.cell? (ad.add j) = some u) (h1 : ∀ u ∈ news, u.oneCell' = true)
    (h63 : n + m ≤ maxLen) (hbytes : (n + m) * bytes ≤ 140737488355328) (hbase : base ≤ w.heap.size)
    (h : ∀ A' c' w', w'.ownsRow base e size (.slice A' (n + m) c') (n + m) (xs ++ news) → w.grownBy w' v.ownBlock →
      ((Value.slice A' (n + m) c').ownBlock = v.ownBlock ∨ (Value.slice A' (n + m) c').ownBlock = some w.heap.size) → K (a.put o.dst (.slice A' (n + m) c')) w') :
    if Region.wanted o (yielded ops a.tmps) = true then Oper.wp P o a w K Q else E := by
  have hw : Region.wanted o (yielded ops a.tmps) = true := by simp [Region.wanted, hgd]
  rw [if_pos hw]
  obtain ⟨i, hi, hz, hsize, hby⟩ := info_parts hinfo
  exact wp_appS s x t ho base e i z size bytes ht hi hz hsize hby hzs hsz v n xs hs hown ad m c news hx hl hr h1 h63 hbytes hbase h

def mkx (l : List Nm) : List Nx := l.map fun x => ⟨x, none, 0⟩
theorem nms_mkx (l : List Nm) : nms (mkx l) = l := by unfold nms mkx; rw [List.map_map]; exact List.map_id l
theorem radd_hit {l : List Nm} {q : Nat} {c t : List UInt8} {use : Int} (h8 : c.length = 8) (h16 : t.length = 16) (ne : l.Pairwise NmNe) {y : Nm} (hy : y ∈ l) (hq : y.seq = q ∨ y.id = c) :
    caddE l q c t = (if y.seq = q ∧ y.id = c ∧ y.tok = t then 0 else 12) ∧ radd ⟨l, use⟩ q c t = ⟨l, use⟩ := by
  have h := cadd_hit (l := mkx l) (use := use) h8 h16 (by rw [nms_mkx]; exact ne) (y := ⟨y, none, 0⟩) (List.mem_map.2 ⟨y, hy, rfl⟩) hq
  rw [nms_mkx] at h
  refine ⟨h.1, ?_⟩
  have ha : l.any (fun x => decide (x.seq = q ∨ x.id = c)) = true := List.any_eq_true.2 ⟨y, hy, decide_eq_true hq⟩
  unfold radd caddN
  rw [ha]; simp
theorem radd_miss {l : List Nm} {q : Nat} {c t : List UInt8} {use : Int} (h8 : c.length = 8) (h16 : t.length = 16) (hno : ∀ y ∈ l, ¬ (y.seq = q ∨ y.id = c)) :
    caddE l q c t = (if cfree l = 8 then 9 else 0) ∧ radd ⟨l, use⟩ q c t = (if cfree l = 8 then ⟨l, use⟩ else ⟨l ++ [⟨q, c, t, -1, false⟩], use⟩) := by
  have h := cadd_miss (l := mkx l) (q := q) (c := c) (t := t) h8 h16 (fun y hy => by
    obtain ⟨x, hx, rfl⟩ := List.mem_map.1 hy
    exact hno x hx)
  rw [nms_mkx] at h
  refine ⟨h.1, ?_⟩
  unfold radd
  rw [h.2]
  by_cases hf : cfree l = 8
  · rw [if_pos hf, decide_eq_false (by simpa using hf)]; rfl
  · rw [if_neg hf, decide_eq_true hf]; rfl
theorem radd_form {l : List Nm} {q : Nat} {c t : List UInt8} {use : Int} (h : ¬ (c.length = 8 ∧ t.length = 16)) : caddE l q c t = 5 ∧ radd ⟨l, use⟩ q c t = ⟨l, use⟩ := by
  refine ⟨(cadd_form (use := use) h l).1, ?_⟩
  unfold radd caddN; rw [decide_eq_false h]; rfl

section
variable {w w' : World} {p : Nat} {A : Option Addr} {c : Nat} {r : Cd}
set_option maxRecDepth 100000 in
set_option maxHeartbeats 4000000 in
theorem radd_form_any (q : Nat) (C B : Option Addr) (nc cc nb cb : Nat) (w : World) (hf : ¬ (nc = 8 ∧ nb = 16)) :
    Calls Try.prog 14 #[.pointer (some ⟨p, 0, none⟩), .int .u64 (q : Int), .slice C nc cc, .slice B nb cb] w fun e w' => e = .returned (.int .i64 5) ∧ w = w' := by
  obtain ⟨Q, hQ⟩ : ∃ Q : Int, (q : Int) = Q := ⟨_, rfl⟩
  rw [hQ]
  clear hQ
  by_cases h1 : nc = 8
  · subst h1
    have b2 : ((nb : Int) != 16) = true := by rw [bne_iff_ne]; omega
    clear hf
    go_enter Try.func14, Try.ntmps14
    go_wp2_with fail
    go_ret
    exact ⟨rfl, rfl⟩
  · have b1 : ((nc : Int) != 8) = true := by rw [bne_iff_ne]; omega
    clear hf h1
    go_enter Try.func14, Try.ntmps14
    go_wp2_with fail
    go_ret
    exact ⟨rfl, rfl⟩

theorem IsRp.of {n : Nat} {l' : List Nm} {use : Int} (hn : l'.length = n) (hc : w.heap[p]? = some (.cells #[.slice A n c, .int .i64 use] 65 (0, 0))) (hr : w.ownsRow 0 62 6 (.slice A n c) n (nmv l')) (hs : l'.length ≤ 100) (hp : ∀ x ∈ l', -1 ≤ x.path) : IsRp w p A c ⟨l', use⟩ := by
  subst hn; exact ⟨hc, hr, hs, hp⟩
/-- What Add leaves. -/
def RAdd (w : World) (p : Nat) (A : Option Addr) (r : Cd) (w' : World) : Prop := ∃ A' c', IsRp w' p A' c' r ∧ Fr (OnB p A) w w' ∧ Next w A A'
set_option maxRecDepth 100000 in
set_option maxHeartbeats 8000000 in
theorem radd_any0 (h : IsRp w p A c r) (hl : r.l.length ≤ 99) (ne : r.l.Pairwise NmNe) (hf8 : cfree r.l ≤ 8) (q : Nat) (cid tok : List UInt8) (C B : Option Addr) (cc cb : Nat) (h8 : cid.length = 8) (h16 : tok.length = 16) (hC : Rd w C (bv cid)) (hB : Rd w B (bv tok)) :
    Calls Try.prog 14 #[.pointer (some ⟨p, 0, none⟩), .int .u64 (q : Int), .slice C 8 cc, .slice B 16 cb] w fun e w' => e = .returned (.int .i64 (caddE r.l q cid tok)) ∧ RAdd w p A (radd r q cid tok) w' := by
  have c0 := wrote_cell h.cell 0 _ rfl
  obtain ⟨SC, hSC⟩ : ∃ S, sob cid = S := ⟨_, rfl⟩
  obtain ⟨ST, hST⟩ : ∃ S, sob tok = S := ⟨_, rfl⟩
  have CVC : Hid (∀ W, Below w.heap.size w W → (convert 22 9 (.slice C 8 cc)).run Try.prog W = .ok (.string SC) W) := Lib.hid (fun W b => by
    have := run_conv_bytes (P := Try.prog) (w := W) (src := 22) (dst := 9) Try.underlying22 Try.underlying5 Try.underlying9 (c := cc) (l := cid) (hC.below b)
    rw [h8] at this
    rw [← hSC]; exact this)
  have CVB : Hid (∀ W, Below w.heap.size w W → (convert 22 9 (.slice B 16 cb)).run Try.prog W = .ok (.string ST) W) := Lib.hid (fun W b => by
    have := run_conv_bytes (P := Try.prog) (w := W) (src := 22) (dst := 9) Try.underlying22 Try.underlying5 Try.underlying9 (c := cb) (l := tok) (hB.below b)
    rw [h16] at this
    rw [← hST]; exact this)
  obtain ⟨E, hE⟩ : ∃ E, caddE r.l q cid tok = E := ⟨_, rfl⟩
  obtain ⟨RL, hRL⟩ : ∃ RL, radd r q cid tok = RL := ⟨_, rfl⟩
  have HIT : Hid (∀ y ∈ r.l, (y.seq = q ∨ y.id = cid) → E = (if y.seq = q ∧ y.id = cid ∧ y.tok = tok then 0 else 12) ∧ RL = r) := Lib.hid (fun y hy hq => by
    rw [← hE, ← hRL]; exact radd_hit h8 h16 ne hy hq)
  have MISS : Hid ((∀ y ∈ r.l, ¬ (y.seq = q ∨ y.id = cid)) → E = (if cfree r.l = 8 then 9 else 0) ∧ RL = (if cfree r.l = 8 then r else ⟨r.l ++ [⟨q, cid, tok, -1, false⟩], r.use⟩)) := Lib.hid (fun hno => by
    rw [← hE, ← hRL]; exact radd_miss h8 h16 hno)
  have FIN : Hid (∀ W, Below w.heap.size w W → RL = r → RAdd w p A RL W) := Lib.hid (fun W hb hr => by rw [hr]; exact ⟨A, c, h.below hb, Fr.of_below hb _, Next.refl w A⟩)
  rw [hE, hRL]
  have HH := Lib.hid h
  have hrC := Lib.hid h.rd
  obtain ⟨L, hL⟩ : ∃ L, r.l.length = L := ⟨_, rfl⟩
  rw [hL] at c0 hl
  obtain ⟨Q, hQ⟩ : ∃ Q : Int, (q : Int) = Q := ⟨_, rfl⟩
  rw [hQ]
  replace hE := Lib.hid hE
  replace hRL := Lib.hid hRL
  replace hQ := Lib.hid hQ
  replace hL := Lib.hid hL
  replace hSC := Lib.hid hSC
  replace hST := Lib.hid hST
  replace h16 := Lib.hid h16
  replace ne := Lib.hid ne
  clear h hC hB
  go_enter Try.func14, Try.ntmps14
  go_wp2_with fail
  go_loopw [9] (fun i wr => ∃ k : Nat, k ≤ L ∧ i = .int .i64 k ∧ Hid (∀ (j : Nat) (y : Nm), j < k → r.l[j]? = some y → ¬ (y.seq = q ∨ y.id = cid)) ∧ Hid (Below w.heap.size w wr)) (fun i _ => L - (intOf i).toNat)
  case atStart => exact ⟨0, by omega, rfl, Lib.hid (fun j y hj => absurd hj (by omega)), Lib.hid (Below.refl _ w)⟩
  case round =>
    obtain ⟨k, hk, rfl, HT, HB2⟩ := hrel
    clear c0
    have c0 : wr.cell? ⟨p, 0, none⟩ = some (.slice A L c) := by
      have := wrote_cell (HH.out.below HB2.out).cell 0 _ rfl
      rw [hL.out] at this; exact this
    by_cases hkL : k < L
    · rename_i aa; clear aa
      have hkl : k < r.l.length := by rw [hL.out]; exact hkL
      have hki : (k : Int) < (L : Int) := by omega
      have hk0 : (0 : Int) ≤ (k : Int) := by omega
      obtain ⟨b, off, rfl, l0, l1, l2, l3, l4, l5⟩ := load_nm (hrC.out.fr (Fr.of_below HB2.out NoS) (fun _ _ _ x => x)) hkl
      have HIT1 := HIT.out _ (List.getElem_mem hkl)
      obtain ⟨y, hyy⟩ : ∃ y, r.l[k] = y := ⟨_, rfl⟩
      have hy' : Hid (r.l[k]? = some y) := Lib.hid (by rw [List.getElem?_eq_getElem hkl, hyy])
      rw [hyy] at l0 l1 l2 l3 l4 l5 HIT1
      clear hyy hkl
      have cvc := fun o => CVC.out (wr.alloc o) (HB2.out.alloc HB2.out.size o)
      have cvb := fun o => CVB.out (wr.alloc o) (HB2.out.alloc HB2.out.size o)
      have hS : ((y.seq : Int) == Q) = decide (y.seq = q) := by
        rw [← hQ.out]
        by_cases h : y.seq = q
        · rw [decide_eq_true h, h]; simp
        · rw [decide_eq_false h, beq_eq_false_iff_ne]; omega
      have hI : ((sob y.id).toList == SC.toList) = decide (y.id = cid) := by rw [← hSC.out]; exact sob_eq _ _
      have hTt : ((sob y.tok).toList == ST.toList) = decide (y.tok = tok) := by rw [← hST.out]; exact sob_eq _ _
      have hhas : Hid (decide (y.tok = tok) = true → (!y.tok.isEmpty) = true) := Lib.hid (fun h => by
        have h := of_decide_eq_true h
        rw [h]
        rcases hz : tok with _ | ⟨a, z⟩
        · have := h16.out; rw [hz] at this; simp at this
        · rfl)
      have bAl : Hid (∀ o, Below w.heap.size w (wr.alloc o)) := Lib.hid (fun o => HB2.out.alloc HB2.out.size o)
      have HNO : Hid (decide (y.seq = q) = false → decide (y.id = cid) = false → ¬ (y.seq = q ∨ y.id = cid)) := Lib.hid (fun a b => by
        have a := of_decide_eq_false a; have b := of_decide_eq_false b; rintro (h | h)
        · exact a h
        · exact b h)
      have HYE : Hid (decide (y.seq = q) = true ∨ decide (y.id = cid) = true → E = (if decide (y.seq = q) = true ∧ decide (y.id = cid) = true ∧ decide (y.tok = tok) = true then 0 else 12) ∧ RL = r) := Lib.hid (fun a => by
        simp only [decide_eq_true_eq] at a ⊢; exact HIT1 a)
      obtain ⟨q0, hq0⟩ : ∃ q : Int, (y.seq : Int) = q := ⟨_, rfl⟩
      obtain ⟨q1, hq1⟩ : ∃ q, sob y.id = q := ⟨_, rfl⟩
      obtain ⟨q2, hq2⟩ : ∃ q, sob y.tok = q := ⟨_, rfl⟩
      obtain ⟨q3, hq3⟩ : ∃ q, (!y.tok.isEmpty) = q := ⟨_, rfl⟩
      obtain ⟨q4, hq4⟩ : ∃ q, y.path = q := ⟨_, rfl⟩
      obtain ⟨q5, hq5⟩ : ∃ q, y.told = q := ⟨_, rfl⟩
      obtain ⟨b1, hb1⟩ : ∃ b, decide (y.seq = q) = b := ⟨_, rfl⟩
      obtain ⟨b2, hb2⟩ : ∃ b, decide (y.id = cid) = b := ⟨_, rfl⟩
      obtain ⟨b3, hb3⟩ : ∃ b, decide (y.tok = tok) = b := ⟨_, rfl⟩
      rw [hq0] at l0 hS
      rw [hq1] at l1 hI
      rw [hq2] at l2 hTt
      rw [hq3] at l3 hhas
      rw [hq4] at l4
      rw [hq5] at l5
      rw [hb1] at hS HNO HYE
      rw [hb2] at hI HNO HYE
      rw [hb3] at hTt hhas HYE
      clear hq0 hq1 hq2 hq3 hq4 hq5 hb1 hb2 hb3 HIT1
      have twelve : Hid (∀ o, RL = r → (Ending.returned (.int .i64 12) = Ending.returned (.int .i64 12)) ∧ RAdd w p (some ⟨b, off, none⟩) RL (wr.alloc o)) := Lib.hid (fun o hr => ⟨rfl, FIN.out _ (bAl.out o) hr⟩)
      cases b1 with
      | false =>
        cases b2 with
        | false =>
          have hno := Lib.hid (HNO.out rfl rfl)
          clear HYE HNO hhas twelve
          go_wp2_with fail
          go_roundw
          case rel => exact ⟨k + 1, by omega, by go_num, Lib.hid (fun j z hj hz => by
              rcases Nat.lt_or_ge j k with h | h
              · exact HT.out j z h hz
              · have : j = k := by omega
                subst this
                rw [hy'.out] at hz; injection hz with hz; rw [← hz]; exact hno.out), Lib.hid (bAl.out _)⟩
          case measure => simp [intOf]; omega
        | true =>
          obtain ⟨e1, e2⟩ := HYE.out (.inr rfl)
          rw [if_neg (by simp)] at e1
          subst e1
          replace e2 := Lib.hid e2
          clear HYE HNO hhas
          go_wp2_with fail
          go_ret
          exact ⟨rfl, (twelve.out _ e2.out).2⟩
      | true =>
        obtain ⟨e1, e2⟩ := HYE.out (.inl rfl)
        replace e2 := Lib.hid e2
        cases b2 with
        | false =>
          rw [if_neg (by simp)] at e1
          subst e1
          clear HYE HNO hhas
          go_wp2_with fail
          go_ret
          exact ⟨rfl, (twelve.out _ e2.out).2⟩
        | true =>
          cases b3 with
          | true =>
            obtain rfl := hhas.out rfl
            rw [if_pos ⟨rfl, rfl, rfl⟩] at e1
            subst e1
            clear HYE HNO
            go_wp2_with fail
            go_ret
            exact ⟨rfl, (twelve.out _ e2.out).2⟩
          | false =>
            rw [if_neg (by simp)] at e1
            subst e1
            clear HYE HNO hhas
            cases q3 with
            | false =>
              go_wp2_with fail
              go_ret
              exact ⟨rfl, (twelve.out _ e2.out).2⟩
            | true =>
              go_wp2_with fail
              go_ret
              exact ⟨rfl, (twelve.out _ e2.out).2⟩
    · obtain rfl : k = L := by omega
      have hall : ∀ y ∈ r.l, ¬ (y.seq = q ∨ y.id = cid) := fun y hy => by
        obtain ⟨j, hj, rfl⟩ := List.getElem_of_mem hy
        exact HT.out j _ (by rw [← hL.out]; exact hj) (List.getElem?_eq_getElem hj)
      obtain ⟨m1, m2⟩ := MISS.out hall
      obtain ⟨F, hF⟩ : ∃ F, cfree r.l = F := ⟨_, rfl⟩
      have CF := rfree_any (HH.out.below HB2.out)
      rw [hF] at m1 m2 CF hf8
      replace CF := Lib.hid CF
      replace m2 := Lib.hid m2
      clear hF HIT MISS HT hall
      by_cases hF8 : F = 8
      · have m5 : Hid (RL = r) := Lib.hid (by have := m2.out; rwa [if_pos hF8] at this)
        subst hF8
        rw [if_pos rfl] at m1
        subst m1
        clear m2
        go_wp2_with fail
        refine CF.out.mono ?_
        rintro e w2 ⟨rfl, rfl⟩
        clear CF
        go_wp2_with fail
        go_ret
        exact ⟨rfl, FIN.out _ HB2.out m5.out⟩
      · rw [if_neg hF8] at m1
        subst m1
        have m5 : Hid (RL = ⟨r.l ++ [⟨q, cid, tok, -1, false⟩], r.use⟩) := Lib.hid (by have := m2.out; rwa [if_neg hF8] at this)
        have d8 : decide ((8 : Int) ≤ (F : Int)) = false := decide_eq_false (by omega)
        have d8n : decide (8 ≤ F) = false := decide_eq_false (by omega)
        clear hF8 m2
        go_wp2_with fail
        refine CF.out.mono ?_
        rintro e w2 ⟨rfl, rfl⟩
        clear CF
        have cv1 := CVC.out wr.drew (HB2.out.trans ((Still.drew wr).below.mono HB2.out.size))
        have cv2 := CVB.out wr.drew (HB2.out.trans ((Still.drew wr).below.mono HB2.out.size))
        have cv3 := CVC.out wr HB2.out
        have cv4 := CVB.out wr HB2.out
        have c3a : ∀ o, (wr.alloc o).cell? ⟨p, 0, none⟩ = some (.slice A k c) := fun o => Lib.cell?_alloc_some o c0
        have c3b : ∀ o, (wr.alloc o).drew.cell? ⟨p, 0, none⟩ = some (.slice A k c) := fun o => Lib.cell?_alloc_some o c0
        have c3c : ∀ o, (wr.drew.alloc o).cell? ⟨p, 0, none⟩ = some (.slice A k c) := fun o => Lib.cell?_alloc_some o c0
        have I3 := (HH.out.below HB2.out)
        have hrow : Hid ((wr.drew.alloc (.cells #[.int .u64 Q, .string SC, .string ST, .bool true, .int .i64 (-1), .bool false] 62)).ownsRow 0 62 6 (.slice A k c) k (nmv r.l)) := Lib.hid (by
          have h1 := (I3.drewN 1).alloc (.cells #[.int .u64 Q, .string SC, .string ST, .bool true, .int .i64 (-1), .bool false] 62)
          have h2 := h1.row
          rw [hL.out] at h2
          exact h2)
        have hnew : Hid (∀ j u, ([.int .u64 Q, .string SC, .string ST, .bool true, .int .i64 (-1), .bool false] : List Value)[j]? = some u → (wr.drew.alloc (.cells #[.int .u64 Q, .string SC, .string ST, .bool true, .int .i64 (-1), .bool false] 62)).cell? ((⟨wr.heap.size, 0, none⟩ : Addr).add j) = some u) := Lib.hid (fun j u hu => by
          have := (Rd.fresh_mark wr.drew [.int .u64 Q, .string SC, .string ST, .bool true, .int .i64 (-1), .bool false] 62 (0, 0)).cells j u hu
          exact this)
        have hone : Hid (∀ u ∈ ([.int .u64 Q, .string SC, .string ST, .bool true, .int .i64 (-1), .bool false] : List Value), u.oneCell' = true) := Lib.hid (by
          intro u hu; simp at hu; rcases hu with rfl | rfl | rfl | rfl | rfl | rfl <;> rfl)
        have hcl : Hid ((⟨q, cid, tok, -1, false⟩ : Nm).cells = [.int .u64 Q, .string SC, .string ST, .bool true, .int .i64 (-1), .bool false]) := Lib.hid (by
          unfold Nm.cells
          simp only [hSC.out, hST.out, hQ.out]
          rcases hz : tok with _ | ⟨a, z⟩
          · have := h16.out; rw [hz] at this; simp at this
          · rfl)
        have CN : Hid (∀ A4 c4 w4, w4.ownsRow 0 62 6 (.slice A4 (k + 1) c4) (k + 1) (nmv r.l ++ [.int .u64 Q, .string SC, .string ST, .bool true, .int .i64 (-1), .bool false]) → (wr.drew.alloc (.cells #[.int .u64 Q, .string SC, .string ST, .bool true, .int .i64 (-1), .bool false] 62)).grownBy w4 (Value.slice A k c).ownBlock → ((Value.slice A4 (k + 1) c4).ownBlock = (Value.slice A k c).ownBlock ∨ (Value.slice A4 (k + 1) c4).ownBlock = some (wr.heap.size + 1)) →
            w4.cell? ⟨p, 0, none⟩ = some (.slice A k c) ∧ w4.frozen? ⟨p, 0, none⟩ = false ∧ Hid (RAdd w p A RL (w4.setCell ⟨p, 0, none⟩ (.slice A4 (k + 1) c4)))) := Lib.hid (fun A4 c4 w4 o4 g4 ha => by
          have hne : ∀ a, A = some a → a.block ≠ p := fun a ha => by
            rcases I3.at with h1 | ⟨g, h1, h2, h3⟩
            · rw [h1] at ha; cases ha
            · rw [h1] at ha; injection ha with ha; subst ha; exact fun e => h2 e.symm
          have F1 : Fr (fun j => ∃ a, A = some a ∧ a.block = j) w w4 := (Fr.of_below HB2.out _).trans ((((Fr.refl (fun j => ∃ a, A = some a ∧ a.block = j) wr).drew).alloc _).grown g4 (fun j hj _ => by
            cases A with
            | none => cases hj
            | some a => injection hj with hj; exact (⟨a, rfl, hj⟩ : ∃ a', some a = some a' ∧ a'.block = _)))
          have hp1 : w4.heap[p]? = some (.cells #[.slice A r.l.length c, .int .i64 r.use] 65 (0, 0)) := heap_fr HH.out.cell F1 (by rintro ⟨a, ha, e⟩; exact hne a ha e)
          have F2 : Fr (fun j => j = p) w4 (w4.setCell ⟨p, 0, none⟩ (.slice A4 (k + 1) c4)) := (Fr.refl (fun j => j = p) w4).setCell (p := ⟨p, 0, none⟩) (fun _ => rfl) _
          have hlr : (r.l ++ [(⟨q, cid, tok, -1, false⟩ : Nm)]).length = k + 1 := by rw [List.length_append, hL.out]; rfl
          have hA'p : ∀ j, (Value.slice A4 (k + 1) c4).ownBlock = some j → j ≠ p := by
            intro j hj e
            subst e
            rcases ownS_cases o4 with ⟨h1, _⟩ | ⟨g, h1, _⟩
            · rw [h1] at hj; cases hj
            · subst h1
              injection hj with hj
              simp only at hj
              subst hj
              exact own_typed o4 hp1 rfl rfl
          refine ⟨by have := wrote_cell hp1 0 _ rfl; rw [hL.out] at this; exact this, frozen_of_row w4 p 0 _ _ hp1, Lib.hid ?_⟩
          rw [m5.out]
          unfold RAdd
          refine ⟨A4, c4, IsRp.of hlr ?_ ?_ (by rw [hlr]; omega) (fun x hx => ?_), (F1.mono (fun j hj _ => .inr hj)).trans (F2.mono (fun j hj _ => .inl hj)), fun a hA4 => ?_⟩
          · exact heap_setCell_same w4 p 0 _ _ (.slice A4 (k + 1) c4) hp1
          · have e : nmv (r.l ++ [(⟨q, cid, tok, -1, false⟩ : Nm)]) = nmv r.l ++ [.int .u64 Q, .string SC, .string ST, .bool true, .int .i64 (-1), .bool false] := by
              rw [nmv, rv_append, rv_single, hcl.out]
            rw [e]
            exact own_fr o4 F2 (fun j hj => hA'p j hj)
          · rcases List.mem_append.1 hx with h1 | h1
            · exact HH.out.path x h1
            · rw [List.mem_singleton.1 h1]; show (-1 : Int) ≤ -1; omega
          · have hb : (Value.slice A4 (k + 1) c4).ownBlock = some a.block := by rw [hA4]; rfl
            rcases ha with e | e
            · rw [e] at hb
              cases A with
              | none => cases hb
              | some b => injection hb with hb; exact .inl ⟨b, rfl, hb⟩
            · rw [e] at hb; injection hb with hb
              have := HB2.out.size
              exact .inr (by omega))
        have hsz0 : wr.heap.size + 1 = (wr.drew.alloc (.cells #[.int .u64 Q, .string SC, .string ST, .bool true, .int .i64 (-1), .bool false] 62)).heap.size := by simp
        replace hsz0 := Lib.hid hsz0
        clear hcl hrC I3
        go_upto_region 13 with fail
        go_cut [] from 71 to 85 (fun wx => Hid (RAdd w p A RL wx))
        case first =>
          go_region_law (refine step_appS rfl _ _ 63 rfl 0 62 _ 6 64 infoO Try.underlying63 rfl (by decide) (.slice A k c) k (nmv r.l) (by simp [Act.eval, Act.put]) hrow.out ⟨wr.heap.size, 0, none⟩ 1 1 [.int .u64 Q, .string SC, .string ST, .bool true, .int .i64 (-1), .bool false] (by simp [Act.eval, Act.put]) rfl hnew.out hone.out (by unfold maxLen; omega) (by omega) (Nat.zero_le _) ?_; intro A4 c4 w4 o4 g4 ha4; obtain ⟨hcp, hfp, P4⟩ := CN.out A4 c4 w4 o4 g4 (by rw [hsz0.out]; exact ha4))
          all_goals (go_wp2_with fail; go_meet; exact P4)
        case rest =>
          clear CN c3a c3b c3c cv1 cv2 cv3 cv4
          go_wp2_with fail
          go_ret
          exact ⟨rfl, hcut.out⟩
end
end Go.Proofs.Ytgmanhbfdjlhbaa
