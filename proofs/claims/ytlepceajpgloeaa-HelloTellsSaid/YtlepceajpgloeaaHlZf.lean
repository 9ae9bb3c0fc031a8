/- hello: the document's own Get: plain laws; copy into a part of a row; what its loop keeps. -/
import Derived.Test.YtlepceajpgloeaaHlZe
namespace Go.Proofs.Ytlepceajpgloeaa
open Go.RowKit

theorem hgl_none : ∀ (j : Nat) (l : List UInt8) (acc : List (List UInt8)), l.length ≠ 9 * j → hgl j l acc = none
  | 0, [], _, h => absurd rfl h
  | 0, _ :: _, _, _ => rfl
  | j + 1, l, acc, h => by
    rw [hgl]
    by_cases hc : l.length < 9 ∨ l.getD 0 0 ≠ 8
    · rw [if_pos hc]
    · rw [if_neg hc]
      refine hgl_none j _ _ ?_
      rw [List.length_drop]
      omega
theorem hkind_first (l : List UInt8) (h : (hkind l).2.2 = 0) : (hkind l).1 = ((l.getD 0 0).toNat : Int) := by
  unfold hkind at h ⊢
  by_cases h1 : l.length < 4
  · rw [if_pos h1] at h; simp at h
  · rw [if_neg h1] at h ⊢
    by_cases h2 : l.getD 0 0 ≠ 1 ∧ l.getD 0 0 ≠ 2 ∧ l.getD 0 0 ≠ 20
    · rw [if_pos h2] at h; simp at h
    · rw [if_neg h2] at h ⊢
      by_cases h3 : 1000 < hnum l
      · rw [if_pos h3] at h; simp at h
      · rw [if_neg h3]
theorem hbody_first (l : List UInt8) (ks : List Int) (h : (hbody l ks).2.2 = 0) : (hbody l ks).1 = ((l.getD 0 0).toNat : Int) ∧ 4 ≤ l.length := by
  unfold hbody at h ⊢
  by_cases he : (hkind l).2.2 = 0
  · obtain ⟨_, _, _, _, h4⟩ := hkind_ok l he
    rw [if_neg (by simp [he])] at h ⊢
    by_cases hk : (ks.any fun x => decide ((hkind l).1 = x)) = false
    · rw [if_pos hk] at h; simp at h
    · rw [if_neg hk] at h ⊢
      by_cases hs : (l.length : Int) < (hkind l).2.1
      · rw [if_pos hs] at h; simp at h
      · rw [if_neg hs]
        exact ⟨hkind_first l he, h4⟩
  · rw [if_pos he] at h
    exact absurd h he

/-- The builtin copy of bytes into a part of a row of any cells; the source is as long as the part, or longer. -/
theorem wpList_copyP {P : Program} {w : World} {ops : Array Oper} {rest : List Oper} {o : Oper} {a : Act} {Q : Exit → Act → World → Prop} (hgd : o.guard = none) (d s : Operand) (dT sT : TypeId)
    (ho : o.op = .call { callee := .builtin .copy, args := #[d, s], argTypes := #[dT, sT] }) (elem : TypeId) (hu : P.underlying dT = some (.slice elem)) (hsz : (P.info? elem).map (·.size) = some 1)
    (g off dLen dCap : Nat) (sp : Option Addr) (sLen sCap : Nat) (hd : a.eval d = .slice (some ⟨g, off, none⟩) dLen dCap) (hs : a.eval s = .slice sp sLen sCap)
    (cur : Array Value) (t : TypeId) (hg : w.heap[g]? = some (.cells cur t (0, 0))) (b : List UInt8) (hb : b.length = sLen) (hr : Rd w sp (bv b)) (hlt : dLen ≤ sLen) (h0 : 0 < dLen) (hfit : off + dLen ≤ cur.size)
    (h : ∀ w', w'.heap[g]? = some (.cells (cur.toList.take off ++ (bv (b.take dLen) ++ cur.toList.drop (off + dLen))).toArray t (0, 0)) → Fr (· = g) w w' → wpList P ops Q rest (a.put o.dst (goInt dLen)) w') : wpList P ops Q (o :: rest) a w := by
  obtain ⟨b0, o0, rfl, hc⟩ := hr (by rw [bv_length]; omega)
  have hl : (bv (b.take dLen)).length = dLen := by rw [bv_length, List.length_take]; omega
  refine wpList_copy_own hgd d s dT sT ho elem hu hsz g off dLen dCap ⟨b0, o0, none⟩ sLen sCap hd hs cur t hg (bv (b.take dLen)) (by rw [hl]; exact (Nat.min_eq_right hlt).symm) (fun j v hv => ?_) (by rw [hl]; exact hfit) (bv_one _) ?_
  · rw [WideShapes.add_plain]
    refine hc j v ?_
    rw [bv, List.map_take, List.getElem?_take] at hv
    split at hv
    · exact hv
    · cases hv
  · rw [hl]
    exact h _ (setRow_heap w g _ _ t _ hg) ⟨rfl, rfl, rfl, by simp, fun k _ hk => setRow_other w g k _ hk⟩
/-- step_app, whatever is told to have yielded. -/
theorem step_appY {P : Program} {w : World} {ys : Nat → Option Bool} {o : Oper} {a : Act} {K : Act → World → Prop} {Q : Exit → Act → World → Prop} {E : Prop} (hgd : o.guard = none) (s x : Operand) (t : TypeId)
    (ho : o.op = .call { callee := .builtin .append, args := #[s, x], argTypes := #[t, t] })
    (base : Nat) (e : TypeId) (z : Value) (bytes : Nat) (hinfo : (P.info? e).map (fun i => (i.zero, i.size, i.bytes)) = some (some z, 1, bytes)) (ht : P.underlying t = some (.slice e)) (hzs : z.cells.size = 1)
    (v : Value) (n : Nat) (xs : List Value) (hs : a.eval s = v) (hown : w.ownsRow base e 1 v n xs)
    (A : Option Addr) (m c : Nat) (news : List Value) (hx : a.eval x = .slice A m c) (hl : news.length = m) (hr : Rd w A news) (h1 : ∀ u ∈ news, u.oneCell' = true)
    (h63 : n + m ≤ maxLen) (hbytes : (n + m) * bytes ≤ 140737488355328) (hbase : base ≤ w.heap.size)
    (h : ∀ A' c' w', w'.ownsRow base e 1 (.slice A' (n + m) c') (n + m) (xs ++ news) → w.grownBy w' v.ownBlock →
      ((Value.slice A' (n + m) c').ownBlock = v.ownBlock ∨ (Value.slice A' (n + m) c').ownBlock = some w.heap.size) → K (a.put o.dst (.slice A' (n + m) c')) w') :
    if Region.wanted o ys = true then Oper.wp P o a w K Q else E := by
  have hw : Region.wanted o ys = true := by simp [Region.wanted, hgd]
  rw [if_pos hw]
  obtain ⟨i, hi, hz, hsize, hby⟩ := info_parts hinfo
  exact wp_app w s x t ho base e i z bytes ht hi hz hsize hby hzs v n xs hs hown A m c news hx hl hr h1 h63 hbytes hbase h
theorem hcs_copy (s : Bool) (z r : List UInt8) (hz : z.length = 32) (A : Option Addr) (n c : Nat) : ((hcl s z A n c).toList.take 1 ++ (bv r ++ (hcl s z A n c).toList.drop (1 + 32))).toArray = hcl s r A n c := by
  have e : (hcl s z A n c).toList = .bool s :: (bv z ++ [.slice A n c]) := rfl
  rw [e, show 1 + 32 = 32 + 1 from rfl, List.drop_succ_cons, List.drop_append_of_le_length (by simp [hz]), List.drop_of_length_le (by simp [hz])]
  rfl

theorem build32z (w : World) : (Instr.build 32 #[]).run Try.prog w = .ok (.agg hz34.toArray) w := by kernel_rfl
theorem build32s (s : Bool) (w : World) : (Instr.build 32 #[(0, .bool s)]).run Try.prog w = .ok (.agg (hcl s (List.replicate 32 0) none 0 0)) w := by kernel_rfl

/-- What the document's Get keeps as it reads: the answer's cell at g, its hello at p, the body. -/
structure Rx (w0 w : World) (g p : Nat) (s : Bool) (r : List UInt8) (A : Option Addr) (n c : Nat) (ids : List (List UInt8)) (X : Option Addr) (xs : List UInt8) : Prop where
  gd : g = w0.heap.size
  gp : g < p
  z : w.heap[g]? = some (.cells hz34.toArray 32 (0, 0))
  h : w.heap[p]? = some (.cells (hcl s r A n c) 32 (0, 0))
  r32 : r.length = 32
  id : Ids g w A n c ids
  x : Rd w X (bv xs)
  xb : ∀ a, X = some a → a.block < g
  bel : Below g w0 w
section
variable {w0 w w' : World} {g p : Nat} {s : Bool} {r : List UInt8} {A : Option Addr} {n c : Nat} {ids : List (List UInt8)} {X : Option Addr} {xs : List UInt8}
theorem Rx.below (h : Rx w0 w g p s r A n c ids X xs) (b : Below w.heap.size w w') : Rx w0 w' g p s r A n c ids X xs :=
  have F := Fr.of_below b NoS
  ⟨h.gd, h.gp, heap_fr h.z F (fun x => x), heap_fr h.h F (fun x => x), h.r32, h.id.below b, h.x.below b, h.xb, h.bel.trans (b.mono (by have := heap_lt h.z; omega))⟩
theorem Rx.push (h : Rx w0 w g p s r A n c ids X xs) {Ai : Option Addr} {ci : Nat} {id : List UInt8} (hid : id.length = 8) (ho : w.ownsRow g 5 1 (.slice Ai 8 ci) 8 (bv id)) :
    ∃ vs, w.ownsRow g 24 1 (.slice A n c) n vs ∧ ∀ (w3 : World) (A3 : Option Addr) (c3 : Nat), w3.ownsRow g 24 1 (.slice A3 (n + 1) c3) (n + 1) (vs ++ [.slice Ai 8 ci]) → w.grownBy w3 (Value.slice A n c).ownBlock →
      w3.cell? ⟨p, 33, none⟩ = some (.slice A n c) ∧ w3.frozen? ⟨p, 33, none⟩ = false ∧
      Rx w0 (w3.setCell ⟨p, 33, none⟩ (.slice A3 (n + 1) c3)) g p s r A3 (n + 1) c3 (ids ++ [id]) X xs := by
  obtain ⟨vs, o1, hstep⟩ := h.id.row
  refine ⟨vs, o1, fun w3 A3 c3 ho3 hg3 => ?_⟩
  have F : Fr (fun k => (Value.slice A n c).ownBlock = some k) w w3 := (Fr.refl _ w).grown hg3 (fun _ hk _ => hk)
  have hh3 := heap_fr h.h F (fun e => own_not_at o1 h.h (by decide) _ e rfl)
  have hz3 := heap_fr h.z F (fun e => own_not_at o1 h.z (by decide) _ e rfl)
  have F2 : Fr (fun k => k = p) w3 (w3.setCell ⟨p, 33, none⟩ (.slice A3 (n + 1) c3)) := (Fr.refl (fun k => k = p) w3).setCell (p := ⟨p, 33, none⟩) (fun _ => rfl) _
  have hI := hstep w3 A3 c3 Ai ci id (by rw [hid]; exact ho) (by rw [hid]; exact ho3) hg3
  have hlo : ∀ k, (Value.slice A n c).ownBlock = some k → g ≤ k := fun k hk => (o1.lt k hk).1
  have hgp := h.gp
  refine ⟨wrote_cell hh3 33 _ (hcl_33 s r A n c h.r32), frozen_of_row w3 _ _ _ _ hh3, h.gd, h.gp, heap_fr hz3 F2 (by omega), ?_, h.r32, hI.at_ F2 hh3 (by decide) (by decide), ?_, h.xb, ?_⟩
  · have := heap_setCell_same w3 p 33 _ _ (.slice A3 (n + 1) c3) hh3
    rw [hcl_set33 s r A A3 n c (n + 1) c3 h.r32] at this
    exact this
  · refine (h.x.fr F (fun hp a ha e => ?_)).fr F2 (fun hp a ha e => ?_)
    · have := h.xb a ha; have := hlo _ e; omega
    · have := h.xb a ha; omega
  · have hgl := heap_lt h.z
    have b1 : Below g w0 w3 := Fr.under h.bel (by omega) F (fun k hk _ => hlo k hk)
    exact bel_at b1 (by have := F.size; omega) (by omega) F2
theorem Rx.cell (h : Rx w0 w g p s r A n c ids X xs) {b off : Nat} (hX : X = some ⟨b, off, none⟩) {i : Nat} (hi : i < xs.length) : w.cell? ⟨b, off + i, none⟩ = some (.int .u8 ((xs.getD i 0).toNat : Int)) := by
  obtain ⟨b', off', e, hc⟩ := h.x (by rw [bv_length]; omega)
  rw [hX] at e
  injection e with e
  injection e with e1 e2
  subst e1 e2
  rw [hc i _ (bv_get hi), List.getD_eq_getElem?_getD, List.getElem?_eq_getElem hi]; rfl
end
theorem hgl_at {cnt k j2 : Nat} {xs : List UInt8} {ids : List (List UInt8)} (hl : xs.length = 33 + 9 * cnt) (hk : cnt - k = j2 + 1) : hgl (cnt - k) (xs.drop (33 + 9 * k)) ids = if xs.getD (33 + 9 * k) 0 ≠ 8 then none else hgl (cnt - (k + 1)) (xs.drop (33 + 9 * (k + 1))) (ids ++ [(xs.drop (33 + 9 * k + 1)).take 8]) := by
  rw [hk, hgl]
  have e1 : ¬ (xs.drop (33 + 9 * k)).length < 9 := by rw [List.length_drop]; omega
  have e2 : (xs.drop (33 + 9 * k)).getD 0 0 = xs.getD (33 + 9 * k) 0 := by simp [List.getD_eq_getElem?_getD, List.getElem?_drop]
  rw [e2, List.drop_drop, List.drop_drop, show cnt - (k + 1) = j2 by omega, show 33 + 9 * k + 9 = 33 + 9 * (k + 1) by omega]
  by_cases h8 : xs.getD (33 + 9 * k) 0 ≠ 8
  · rw [if_pos (.inr h8), if_pos h8]
  · rw [if_neg (fun h => h.elim e1 h8), if_neg h8]
theorem hgl_end {cnt : Nat} {xs : List UInt8} {ids : List (List UInt8)} (hl : xs.length = 33 + 9 * cnt) : hgl (cnt - cnt) (xs.drop (33 + 9 * cnt)) ids = some ids := by
  rw [Nat.sub_self, List.drop_of_length_le (by omega)]; rfl
end Go.Proofs.Ytlepceajpgloeaa
