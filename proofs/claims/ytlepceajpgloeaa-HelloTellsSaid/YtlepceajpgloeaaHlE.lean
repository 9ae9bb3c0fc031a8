/- hello: Get: contracts. (Printed by gen_hlE.py.) -/
import Derived.Test.YtlepceajpgloeaaHlD
import Derived.Test.YtlepceajpgloeaaAgg
namespace Go.Proofs.Ytlepceajpgloeaa
open Go.RowKit

structure Hl where
  s : Bool
  r : List UInt8
  ids : List (List UInt8)
def hzero : Hl := ⟨false, List.replicate 32 0, []⟩
/-- The names that so many bytes tell. -/
def hgl : Nat → List UInt8 → List (List UInt8) → Option (List (List UInt8))
  | 0, [], acc => some acc
  | 0, _ :: _, _ => none
  | j + 1, l, acc => if l.length < 9 ∨ l.getD 0 0 ≠ 8 then none else hgl j (l.drop 9) (acc ++ [(l.drop 1).take 8])
def hfin (s : Bool) (r : List UInt8) (L : Nat) : Option (List (List UInt8)) → Hl × Int × Int
  | none => (hzero, 0, 5)
  | some ids => (⟨s, r, ids⟩, (L : Int), 0)
def hget (l : List UInt8) : Hl × Int × Int :=
  if (hbody l [1, 2]).2.2 ≠ 0 then (hzero, 0, (hbody l [1, 2]).2.2) else if (hbody l [1, 2]).2.1.length < 33 then (hzero, 0, 5)
  else if ((hbody l [1, 2]).2.1.getD 32 0).toNat < 1 ∨ 4 < ((hbody l [1, 2]).2.1.getD 32 0).toNat then (hzero, 0, 5)
  else hfin ((hbody l [1, 2]).1 == 2) ((hbody l [1, 2]).2.1.take 32) (4 + (hbody l [1, 2]).2.1.length) (hgl ((hbody l [1, 2]).2.1.getD 32 0).toNat ((hbody l [1, 2]).2.1.drop 33) [])

/-- A row of rows of the call's own. -/
def Ids (base : Nat) (w : World) (A : Option Addr) (n c : Nat) (ids : List (List UInt8)) : Prop :=
  ∃ vs, w.ownsRow base 24 1 (.slice A n c) n vs ∧ ids.length = n ∧ ∀ (k : Nat) (id : List UInt8), ids[k]? = some id → ∃ Ak ck, vs[k]? = some (.slice Ak id.length ck) ∧ w.ownsRow base 5 1 (.slice Ak id.length ck) id.length (bv id)
section
variable {base : Nat} {w w' : World} {A : Option Addr} {n c : Nat} {ids : List (List UInt8)}
theorem Ids.nil (base : Nat) (w : World) : Ids base w none 0 0 [] := ⟨[], World.ownsRow_nil _ _ _ _, rfl, fun k id h => by simp at h⟩
theorem Ids.fr {S : Nat → Prop} (h : Ids base w A n c ids) (F : Fr S w w') (hS : ∀ k, base ≤ k → ¬ S k) : Ids base w' A n c ids := by
  obtain ⟨vs, h1, h2, h3⟩ := h
  refine ⟨vs, own_fr h1 F (fun k hk => hS k (h1.lt k hk).1), h2, fun k id hk => ?_⟩
  obtain ⟨Ak, ck, q1, q2⟩ := h3 k id hk
  exact ⟨Ak, ck, q1, own_fr q2 F (fun k hk => hS k (q2.lt k hk).1)⟩
theorem Ids.below (h : Ids base w A n c ids) (b : Below w.heap.size w w') : Ids base w' A n c ids := h.fr (Fr.of_below b NoS) (fun _ _ x => x)
theorem Ids.rd (h : Ids base w A n c ids) : RdR w A ids := by
  obtain ⟨vs, h1, h2, h3⟩ := h
  refine ⟨vs, Rd.of_own h1, by have := h1.1; omega, fun k id hk => ?_⟩
  obtain ⟨Ak, ck, q1, q2⟩ := h3 k id hk
  have := RetS.cap q2
  exact ⟨Ak, ck, q1, Rd.of_own q2, this.1, this.2⟩
theorem own_apart {w : World} {b1 b2 e1 e2 s1 s2 n1 n2 : Nat} {A1 A2 : Option Addr} {c1 c2 : Nat} {x1 x2 : List Value} (h1 : w.ownsRow b1 e1 s1 (.slice A1 n1 c1) n1 x1) (h2 : w.ownsRow b2 e2 s2 (.slice A2 n2 c2) n2 x2) (ht : (e1 == e2) = false) : ∀ k, (Value.slice A1 n1 c1).ownBlock = some k → ¬ (Value.slice A2 n2 c2).ownBlock = some k := by
  intro k q1 q2
  rcases h1.2 with ⟨h, _⟩ | ⟨g, cap, cur, hv, _, hg, _⟩
  · rw [h] at q1; cases q1
  · rw [hv] at q1; injection q1 with q1; subst q1
    rcases h2.2 with ⟨h, _⟩ | ⟨g', cap', cur', hv', _, hg', _⟩
    · rw [h] at q2; cases q2
    · rw [hv'] at q2; injection q2 with q2; subst q2
      rw [hg] at hg'
      injection hg' with e
      injection e with _ e
      subst e
      simp at ht
theorem own_not_at {w : World} {b e s n : Nat} {A : Option Addr} {c p : Nat} {x : List Value} {cs : Array Value} {t : TypeId} (h : w.ownsRow b e s (.slice A n c) n x) (hp : w.heap[p]? = some (.cells cs t (0, 0))) (ht : (t == e) = false) : ∀ k, (Value.slice A n c).ownBlock = some k → ¬ k = p := by
  intro k q1 q2
  subst q2
  rcases h.2 with ⟨h, _⟩ | ⟨g, cap, cur, hv, _, hg, _⟩
  · rw [h] at q1; cases q1
  · rw [hv] at q1; injection q1 with q1; subst q1
    rw [hg] at hp
    injection hp with e
    injection e with _ e
    subst e
    simp at ht
/-- A store into a block of another kind. -/
theorem Ids.at_ {p : Nat} {cs : Array Value} {t : TypeId} (h : Ids base w A n c ids) (F : Fr (fun k => k = p) w w') (hp : w.heap[p]? = some (.cells cs t (0, 0))) (h1 : (t == 24) = false) (h2 : (t == 5) = false) : Ids base w' A n c ids := by
  obtain ⟨vs, o1, o2, o3⟩ := h
  refine ⟨vs, own_fr o1 F (own_not_at o1 hp h1), o2, fun k id hk => ?_⟩
  obtain ⟨Ak, ck, q1, q2⟩ := o3 k id hk
  exact ⟨Ak, ck, q1, own_fr q2 F (own_not_at q2 hp h2)⟩
/-- One more. -/
theorem Ids.row {base : Nat} {w : World} {A : Option Addr} {n c : Nat} {ids : List (List UInt8)} (h : Ids base w A n c ids) : ∃ vs, w.ownsRow base 24 1 (.slice A n c) n vs ∧ (∀ (w' : World) (A' : Option Addr) (c' : Nat) (Ai : Option Addr) (ci : Nat) (id : List UInt8), w.ownsRow base 5 1 (.slice Ai id.length ci) id.length (bv id) → w'.ownsRow base 24 1 (.slice A' (n + 1) c') (n + 1) (vs ++ [.slice Ai id.length ci]) → w.grownBy w' (Value.slice A n c).ownBlock → Ids base w' A' (n + 1) c' (ids ++ [id])) := by
  obtain ⟨vs, o1, o2, o3⟩ := h
  refine ⟨vs, o1, fun w' A' c' Ai ci id ho hrow hg => ?_⟩
  have hl : vs.length = n := by have := o1.1; omega
  have F : Fr (fun k => (Value.slice A n c).ownBlock = some k) w w' := (Fr.refl _ w).grown hg (fun _ hk _ => hk)
  refine ⟨_, hrow, by rw [List.length_append, o2]; rfl, fun k id' hk => ?_⟩
  by_cases hkn : k < n
  · rw [List.getElem?_append_left (by omega)] at hk
    obtain ⟨Ak, ck, q1, q2⟩ := o3 k id' hk
    exact ⟨Ak, ck, by rw [List.getElem?_append_left (by omega)]; exact q1, own_fr q2 F (own_apart q2 o1 (by decide))⟩
  · have hk' : k = n := by
      have := (List.getElem?_eq_some_iff.1 hk).1
      simp at this; omega
    subst hk'
    rw [List.getElem?_append_right (by omega), o2, Nat.sub_self] at hk
    simp at hk
    subst hk
    exact ⟨Ai, ci, by rw [List.getElem?_append_right (by omega), hl, Nat.sub_self]; rfl, own_fr ho F (own_apart ho o1 (by decide))⟩
end
def RetH (w : World) (x : Hl × Int × Int) (e : Ending) (w' : World) : Prop :=
  ∃ A n c, e = .returned (.tuple #[.agg (hcl x.1.s x.1.r A n c), .int .i64 x.2.1, .int .i64 x.2.2]) ∧ x.1.r.length = 32 ∧ Ids w.heap.size w' A n c x.1.ids ∧ Below w.heap.size w w'
theorem hcl_list (s : Bool) (r : List UInt8) (A : Option Addr) (n c : Nat) : hcl s r A n c = (Value.bool s :: (bv r ++ [.slice A n c])).toArray := rfl
theorem hcl_one (s : Bool) (r : List UInt8) (A : Option Addr) (n c : Nat) : ∀ u ∈ (Value.bool s :: (bv r ++ [.slice A n c])), u.oneCell' = true := by
  intro u hu
  rcases List.mem_cons.1 hu with rfl | hu
  · rfl
  · rcases List.mem_append.1 hu with hu | hu
    · exact bv_one r u hu
    · simp at hu; subst hu; rfl
theorem hcl_len (s : Bool) (r : List UInt8) (A : Option Addr) (n c : Nat) (hr : r.length = 32) : (Value.bool s :: (bv r ++ [.slice A n c])).length = 34 := by simp [hr]
theorem hcl_set33 (s : Bool) (r : List UInt8) (A A' : Option Addr) (n c n' c' : Nat) (hr : r.length = 32) : (hcl s r A n c).setIfInBounds 33 (.slice A' n' c') = hcl s r A' n' c' := by
  unfold hcl
  rw [List.setIfInBounds_toArray, List.set_cons_succ]
  congr 2
  have : (bv r ++ [Value.slice A n c]).set 32 (.slice A' n' c') = bv r ++ [.slice A' n' c'] := by
    rw [List.set_append_right _ _ (by simp [hr])]; simp [hr]
  exact this
theorem hinfo27 : (Try.prog.info? 27).map (·.size) = some 34 := by kernel_rfl
theorem hinfo22 : (Try.prog.info? 22).map (·.size) = some 32 := by kernel_rfl
def hz34 : List Value := .bool false :: (bv (List.replicate 32 0) ++ [.slice none 0 0])
theorem build27 (w : World) : (Instr.build 27 #[]).run Try.prog w = .ok (.agg hz34.toArray) w := by kernel_rfl

/-- Where Get stands at 'next'. -/
structure Nx (w0 w : World) (g : Nat) (s : Bool) (r : List UInt8) (A : Option Addr) (n c : Nat) (ids : List (List UInt8)) (X : Option Addr) (n1 c1 : Nat) (l1 : List UInt8) : Prop where
  gd : g = w0.heap.size
  z : w.heap[g]? = some (.cells hz34.toArray 27 (0, 0))
  h : w.heap[g + 1]? = some (.cells (hcl s r A n c) 27 (0, 0))
  r32 : r.length = 32
  id : Ids g w A n c ids
  x : Rd w X (bv l1)
  xl : l1.length = n1
  xc : n1 ≤ c1 ∧ c1 ≤ 9223372036854775807 ∧ n1 ≤ 1000
  xb : ∀ a, X = some a → a.block < g
  bel : Below g w0 w
def At1 (w0 : World) (g : Nat) (V : Hl × Int × Int) (a : Act) (w : World) : Prop :=
  ∃ (j n c n1 c1 L : Nat) (s : Bool) (r : List UInt8) (A X : Option Addr) (ids : List (List UInt8)) (l1 : List UInt8), Nx w0 w g s r A n c ids X n1 c1 l1 ∧ j ≤ 4 ∧ n + j ≤ 4 ∧ L ≤ 2000 ∧ V = hfin s r L (hgl j l1 ids) ∧
  ∃ u0 u1 u3 u4 u7 u9 u11 u12 u13 u14 u15 u16 u17 u18 u19 u20 u21 u22 u23 u24 u25 u26 u27 u28 u29 u30 u31 u32 u33 u34 u35 u36 u37 u38 u39 u40 u41 u42 u43 u44 u45 u46 u47 u48 u49 u50 u51 u52 u53 u54 u55 u56 u57 u58 u59 u60 u61 u62 u63 u64 u65 u66 u67 u68 u69 u70 u71 u72 u73 u74 u75 u76 u77 u78 u79 u80 u81 : Value, a = ⟨#[u0, u1, .pointer (some ⟨g, 0, none⟩), u3, u4, .pointer (some ⟨g + 1, 0, none⟩), .int .i64 (j : Int), u7, .slice X n1 c1, u9, .int .i64 (L : Int), u11, u12, u13, u14, u15, u16, u17, u18, u19, u20, u21, u22, u23, u24, u25, u26, u27, u28, u29, u30, u31, u32, u33, u34, u35, u36, u37, u38, u39, u40, u41, u42, u43, u44, u45, u46, u47, u48, u49, u50, u51, u52, u53, u54, u55, u56, u57, u58, u59, u60, u61, u62, u63, u64, u65, u66, u67, u68, u69, u70, u71, u72, u73, u74, u75, u76, u77, u78, u79, u80, u81], []⟩
def At0 (w0 : World) (g : Nat) (V : Hl × Int × Int) (a : Act) (w : World) : Prop :=
  V = (hzero, 0, 5) ∧ g = w0.heap.size ∧ w.heap[g]? = some (.cells hz34.toArray 27 (0, 0)) ∧ Below g w0 w ∧
  ∃ u0 u1 u3 u4 u5 u6 u7 u8 u9 u10 u11 u12 u13 u14 u15 u16 u17 u18 u19 u20 u21 u22 u23 u24 u25 u26 u27 u28 u29 u30 u31 u32 u33 u34 u35 u36 u37 u38 u39 u40 u41 u42 u43 u44 u45 u46 u47 u48 u49 u50 u51 u52 u53 u54 u55 u56 u57 u58 u59 u60 u61 u62 u63 u64 u65 u66 u67 u68 u69 u70 u71 u72 u73 u74 u75 u76 u77 u78 u79 u80 u81 : Value, a = ⟨#[u0, u1, .pointer (some ⟨g, 0, none⟩), u3, u4, u5, u6, u7, u8, u9, u10, u11, u12, u13, u14, u15, u16, u17, u18, u19, u20, u21, u22, u23, u24, u25, u26, u27, u28, u29, u30, u31, u32, u33, u34, u35, u36, u37, u38, u39, u40, u41, u42, u43, u44, u45, u46, u47, u48, u49, u50, u51, u52, u53, u54, u55, u56, u57, u58, u59, u60, u61, u62, u63, u64, u65, u66, u67, u68, u69, u70, u71, u72, u73, u74, u75, u76, u77, u78, u79, u80, u81], []⟩

theorem hz34_size : hz34.toArray.size = 34 := by decide
theorem hz34_one : ∀ u ∈ hz34, u.oneCell' = true := hcl_one false (List.replicate 32 0) none 0 0
theorem retH_zero {w0 w : World} {g : Nat} {V : Hl × Int × Int} {v : Int} (hV : V = (hzero, 0, v)) (hg : g = w0.heap.size) (hb : Below g w0 w) : RetH w0 V (.returned (.tuple #[.agg hz34.toArray, .int .i64 0, .int .i64 v])) w := by
  subst hV hg
  exact ⟨none, 0, 0, rfl, by simp [hzero], Ids.nil _ _, hb⟩
theorem bel_at {w0 w w' : World} {g p : Nat} (hb : Below g w0 w) (hg : g ≤ w.heap.size) (hp : g ≤ p) (F : Fr (fun k => k = p) w w') : Below g w0 w' := Fr.under hb hg F (fun k hk _ => by omega)

theorem infoS : (Try.prog.info? 24).map (fun i => (i.zero, i.size, i.bytes)) = some (some (.slice none 0 0), 1, 24) := by kernel_rfl
section
variable {w0 w w' : World} {g : Nat} {s : Bool} {r : List UInt8} {A : Option Addr} {n c : Nat} {ids : List (List UInt8)} {X : Option Addr} {n1 c1 : Nat} {l1 : List UInt8}
theorem Nx.below (h : Nx w0 w g s r A n c ids X n1 c1 l1) (b : Below w.heap.size w w') : Nx w0 w' g s r A n c ids X n1 c1 l1 :=
  have F := Fr.of_below b NoS
  ⟨h.gd, heap_fr h.z F (fun x => x), heap_fr h.h F (fun x => x), h.r32, h.id.below b, h.x.below b, h.xl, h.xc, h.xb, h.bel.trans (b.mono (by have := heap_lt h.z; omega))⟩
theorem Nx.push (h : Nx w0 w g s r A n c ids X n1 c1 l1) {Ai : Option Addr} {ci : Nat} {id : List UInt8} (hid : id.length = 8) (ho : w.ownsRow g 5 1 (.slice Ai 8 ci) 8 (bv id)) :
    ∃ vs, w.ownsRow g 24 1 (.slice A n c) n vs ∧ ∀ (w3 : World) (A3 : Option Addr) (c3 : Nat), w3.ownsRow g 24 1 (.slice A3 (n + 1) c3) (n + 1) (vs ++ [.slice Ai 8 ci]) → w.grownBy w3 (Value.slice A n c).ownBlock →
      w3.cell? ⟨g + 1, 33, none⟩ = some (.slice A n c) ∧ w3.frozen? ⟨g + 1, 33, none⟩ = false ∧
      ∀ (X' : Option Addr) (n1' c1' : Nat) (l1' : List UInt8), Rd w X' (bv l1') → l1'.length = n1' → (n1' ≤ c1' ∧ c1' ≤ 9223372036854775807 ∧ n1' ≤ 1000) → (∀ a, X' = some a → a.block < g) →
        Nx w0 (w3.setCell ⟨g + 1, 33, none⟩ (.slice A3 (n + 1) c3)) g s r A3 (n + 1) c3 (ids ++ [id]) X' n1' c1' l1' := by
  obtain ⟨vs, o1, hstep⟩ := h.id.row
  refine ⟨vs, o1, fun w3 A3 c3 ho3 hg3 => ?_⟩
  have F : Fr (fun k => (Value.slice A n c).ownBlock = some k) w w3 := (Fr.refl _ w).grown hg3 (fun _ hk _ => hk)
  have hh3 := heap_fr h.h F (fun e => own_not_at o1 h.h (by decide) _ e rfl)
  have hz3 := heap_fr h.z F (fun e => own_not_at o1 h.z (by decide) _ e rfl)
  have F2 : Fr (fun k => k = g + 1) w3 (w3.setCell ⟨g + 1, 33, none⟩ (.slice A3 (n + 1) c3)) := (Fr.refl (fun k => k = g + 1) w3).setCell (p := ⟨g + 1, 33, none⟩) (fun _ => rfl) _
  refine ⟨wrote_cell hh3 33 _ (hcl_33 s r A n c h.r32), frozen_of_row w3 _ _ _ _ hh3, fun X' n1' c1' l1' q1 q2 q3 q4 => ?_⟩
  have hI := hstep w3 A3 c3 Ai ci id (by rw [hid]; exact ho) (by rw [hid]; exact ho3) hg3
  have hlo : ∀ k, (Value.slice A n c).ownBlock = some k → g ≤ k := fun k hk => (o1.lt k hk).1
  refine ⟨h.gd, heap_fr hz3 F2 (by omega), ?_, h.r32, hI.at_ F2 hh3 (by decide) (by decide), ?_, q2, q3, q4, ?_⟩
  · have := heap_setCell_same w3 (g + 1) 33 _ _ (.slice A3 (n + 1) c3) hh3
    rw [hcl_set33 s r A A3 n c (n + 1) c3 h.r32] at this
    exact this
  · refine (q1.fr F (fun hp a ha e => ?_)).fr F2 (fun hp a ha e => ?_)
    · have := q4 a ha; have := hlo _ e; omega
    · have := q4 a ha; omega
  · have hgl := heap_lt h.z
    have b1 : Below g w0 w3 := Fr.under h.bel (by omega) F (fun k hk _ => hlo k hk)
    exact bel_at b1 (by have := F.size; omega) (by omega) F2
end
theorem hcl_first (s : Bool) (r : List UInt8) (hr : r.length = 32) : over (hz34.toArray.setIfInBounds 0 (.bool s)) 1 (bv r) = hcl s r none 0 0 := by
  apply Array.ext_getElem?
  intro k
  have hs : (hz34.toArray.setIfInBounds 0 (.bool s)).size = 34 := by simp [hz34]
  rw [over_get _ _ _ _ (by rw [hs, bv_length]; omega), bv_length, hr]
  by_cases h1 : 1 ≤ k ∧ k < 1 + 32
  · rw [if_pos h1]
    obtain ⟨m, rfl⟩ : ∃ m, k = 1 + m := ⟨k - 1, by omega⟩
    rw [Nat.add_sub_cancel_left]
    have hm : m < (bv r).length := by simp [hr]; omega
    rw [hcl_r s r none 0 0 m _ (List.getElem?_eq_getElem hm), List.getElem?_eq_getElem hm]
  · rw [if_neg h1]
    by_cases h0 : k = 0
    · subst h0; rw [hcl_0]; simp [hz34]
    · by_cases h33 : k = 33
      · subst h33; rw [hcl_33 s r none 0 0 hr]; simp [hz34]
      · rw [Array.getElem?_eq_none (by rw [hs]; omega), Array.getElem?_eq_none (by rw [hcl_size _ _ _ _ _ hr]; omega)]

set_option maxRecDepth 100000 in
set_option maxHeartbeats 8000000 in
theorem hget_any (l : List UInt8) (A0 : Option Addr) (c0 n0 : Nat) (w0 : World) (hn : l.length = n0) (hr : Rd w0 A0 (bv l)) (hl : n0 ≤ 1000000) (hc : n0 ≤ c0) (hcc : c0 ≤ 9223372036854775807) :
    Calls Try.prog 19 #[.slice A0 n0 c0] w0 (RetH w0 (hget l)) := by
  obtain ⟨V, hV⟩ : ∃ V, hget l = V := ⟨_, rfl⟩
  obtain ⟨g, hg⟩ : ∃ g, w0.heap.size = g := ⟨_, rfl⟩
  have hAlt : ∀ a, A0 = some a → 0 < n0 → a.block < w0.heap.size := fun a ha hp => by
    obtain ⟨a', e, h⟩ := hr.lt (by rw [bv_length]; omega)
    rw [ha] at e; injection e with e; subst e; exact h
  rw [hV]
  replace hV := Lib.hid hV
  replace hg := Lib.hid hg
  replace hr := Lib.hid hr
  replace hn := Lib.hid hn
  replace hAlt := Lib.hid hAlt
  go_enter Try.func19, Try.ntmps19
  go_wp2_with fail
  refine wp_scope_two 0 1 (At0 w0 g V) (At1 w0 g V) (fun a' _ => (intOf (a'.tmps.getD 6 undef)).toNat) (by decide) rfl rfl ?_ ?_ ?_
  · rintro a wr ⟨j, n, c, n1, c1, L, s, r, A, X, ids, l1, N, hj, hnj, hL, hv, u0, u1, u3, u4, u7, u9, u11, u12, u13, u14, u15, u16, u17, u18, u19, u20, u21, u22, u23, u24, u25, u26, u27, u28, u29, u30, u31, u32, u33, u34, u35, u36, u37, u38, u39, u40, u41, u42, u43, u44, u45, u46, u47, u48, u49, u50, u51, u52, u53, u54, u55, u56, u57, u58, u59, u60, u61, u62, u63, u64, u65, u66, u67, u68, u69, u70, u71, u72, u73, u74, u75, u76, u77, u78, u79, u80, u81, rfl⟩
    by_cases hj0 : j = 0
    · have e1 : ((j : Int) == 0) = true := by rw [beq_iff_eq]; omega
      by_cases hn0 : n1 = 0
      · have e2 : ((n1 : Int) == 0) = true := by rw [beq_iff_eq]; omega
        have hl0 : l1 = [] := List.eq_nil_of_length_eq_zero (by rw [N.xl]; exact hn0)
        rw [hl0, hj0] at hv
        have hv2 : Hid (V = (⟨s, r, ids⟩, (L : Int), 0)) := Lib.hid hv
        obtain ⟨LS, hLS⟩ : ∃ LS, (Value.bool s :: (bv r ++ [.slice A n c])) = LS := ⟨_, rfl⟩
        have hLl : LS.length = 34 := by rw [← hLS]; exact hcl_len s r A n c N.r32
        have hL1 : ∀ u ∈ LS, u.oneCell' = true := by rw [← hLS]; exact hcl_one s r A n c
        have hR : wr.rangeAt (g + 1) 0 LS := by
          have := range_of_block N.h
          rw [hcl_list, hLS] at this
          exact this
        have hz := N.z
        have HF : Hid (∀ w2, w2.heap[g]? = some (.cells (over hz34.toArray 0 LS) 27 (0, 0)) → Fr (fun k => k = g) wr w2 → w2.heap[g]? = some (.cells LS.toArray 27 (0, 0)) ∧ RetH w0 V (.returned (.tuple #[.agg LS.toArray, .int .i64 (L : Int), .int .i64 0])) w2) := Lib.hid (fun w2 h2 F2 => by
          rw [over_full LS _ (by rw [hz34_size, hLl])] at h2
          refine ⟨h2, A, n, c, by rw [hv2.out, ← hLS]; rfl, by rw [hv2.out]; exact N.r32, ?_, ?_⟩
          · rw [hv2.out, ← N.gd]; exact N.id.at_ F2 N.z (by decide) (by decide)
          · rw [← N.gd]; exact bel_at N.bel (Nat.le_of_lt (heap_lt N.z)) (Nat.le_refl _) F2)
        replace hR := Lib.hid hR
        replace hz := Lib.hid hz
        replace hLl := Lib.hid hLl
        replace hL1 := Lib.hid hL1
        replace hj0 := Lib.hid hj0
        replace hn0 := Lib.hid hn0
        clear hLS hv hl0 N
        go_wp2_with (first | (refine wpList_load_mid rfl 27 (.tmp 5) rfl (g + 1) 0 rfl LS _ hR.out Try.underlying27 rfl (by rw [hLl.out]; exact hinfo27) ?_) | (refine wpList_store_block rfl 27 (.tmp 2) (.tmp 54) rfl g 0 LS rfl rfl hz34.toArray _ hz.out (by rw [hLl.out, hz34_size]; exact Nat.le_refl _) (by rw [hLl.out]; exact hinfo27) hL1.out ?_; intro w2 h2 F2; have HF2 := HF.out w2 h2 F2; replace HF2 := Lib.hid HF2; clear h2 F2))
        simp only [JumpTo]
        exact bodyPost_ret (results_cell3 Try.results19 _ w2 g 27 LS.toArray _ rfl HF2.out.1 Try.underlying27 rfl (by rw [List.size_toArray, hLl.out]; exact hinfo27)) rfl HF2.out.2
      · have e2 : ((n1 : Int) == 0) = false := by rw [beq_eq_false_iff_ne]; omega
        have hv2 : V = (hzero, 0, 5) := by
          rcases l1 with _ | ⟨y, l2⟩
          · exact absurd N.xl.symm hn0
          · rw [hv, hj0]; rfl
        replace hv2 := Lib.hid hv2
        replace N := Lib.hid N
        replace hj0 := Lib.hid hj0
        replace hn0 := Lib.hid hn0
        clear hv
        go_wp2_with fail
        go_step3
        exact .inl ⟨rfl, hv2.out, N.out.gd, N.out.z, N.out.bel, _, _, _, _, _, _, _, _, _, _, _, _, _, _, _, _, _, _, _, _, _, _, _, _, _, _, _, _, _, _, _, _, _, _, _, _, _, _, _, _, _, _, _, _, _, _, _, _, _, _, _, _, _, _, _, _, _, _, _, _, _, _, _, _, _, _, _, _, _, _, _, _, _, _, _, _, _, _, _, _, _, rfl⟩
    · obtain ⟨j2, hj2⟩ : ∃ j2, j = j2 + 1 := ⟨j - 1, by omega⟩
      have e1 : ((j : Int) == 0) = false := by rw [beq_eq_false_iff_ne]; omega
      have hgl1 : hgl j l1 ids = if l1.length < 9 ∨ l1.getD 0 0 ≠ 8 then none else hgl j2 (l1.drop 9) (ids ++ [(l1.drop 1).take 8]) := by rw [hj2]; rfl
      rw [hgl1] at hv
      clear hgl1
      by_cases hn9 : n1 < 9
      · have d1 : decide ((n1 : Int) < 9) = true := decide_eq_true (by omega)
        have d1' : decide (n1 < 9) = true := decide_eq_true hn9
        rw [if_pos (.inl (by rw [N.xl]; exact hn9))] at hv
        have hv2 : Hid (V = (hzero, 0, 5)) := Lib.hid hv
        replace N := Lib.hid N
        replace hj2 := Lib.hid hj2
        clear hv
        go_wp2_with fail
        go_step3
        exact .inl ⟨rfl, hv2.out, N.out.gd, N.out.z, N.out.bel, _, _, _, _, _, _, _, _, _, _, _, _, _, _, _, _, _, _, _, _, _, _, _, _, _, _, _, _, _, _, _, _, _, _, _, _, _, _, _, _, _, _, _, _, _, _, _, _, _, _, _, _, _, _, _, _, _, _, _, _, _, _, _, _, _, _, _, _, _, _, _, _, _, _, _, _, _, _, _, _, _, rfl⟩
      · have d1 : decide ((n1 : Int) < 9) = false := decide_eq_false (by omega)
        have d1' : decide (n1 < 9) = false := decide_eq_false hn9
        rcases l1 with _ | ⟨y, l2⟩
        · have := N.xl; simp at this; omega
        obtain ⟨b, off, rfl, g0⟩ := N.x.at_ (k := 0) (by simp)
        simp only [bv, List.map_cons, List.getElem_cons_zero, Nat.add_zero] at g0
        have hI0 : (0 : Int) < (n1 : Int) := by omega
        by_cases hy : y = 8
        · subst hy
          rw [if_neg (by rw [N.xl]; simp; omega)] at hv
          simp only [UInt8.reduceToNat] at g0
          obtain ⟨X1, hX1, hX1c⟩ := cut_lh (P := Try.prog) Try.underlying24 infoB (some ⟨b, off, none⟩) n1 c1 1 9 (by omega) (by have := N.xc; omega)
          obtain ⟨X2, hX2, hX2c⟩ := cut_l (P := Try.prog) Try.underlying24 infoB (some ⟨b, off, none⟩) n1 c1 9 (by omega) (by have := N.xc; omega)
          obtain ⟨n2, hn2⟩ : ∃ n2, n1 - 9 = n2 := ⟨_, rfl⟩
          obtain ⟨c2, hc2⟩ : ∃ c2, c1 - 9 = c2 := ⟨_, rfl⟩
          obtain ⟨c3, hc3⟩ : ∃ c3, c1 - 1 = c3 := ⟨_, rfl⟩
          rw [hc3] at hX1
          rw [hn2, hc2] at hX2
          replace hX1 : ∀ w : World, (Instr.sliceAt 24 (.slice (some ⟨b, off, none⟩) n1 c1) (some (.int .i64 1)) (some (.int .i64 9)) none).run Try.prog w = .ok (.slice X1 8 c3) w := hX1
          replace hX2 : ∀ w : World, (Instr.sliceAt 24 (.slice (some ⟨b, off, none⟩) n1 c1) (some (.int .i64 9)) none none).run Try.prog w = .ok (.slice X2 n2 c2) w := hX2
          obtain ⟨id, hid⟩ : ∃ id, ((8 :: l2).drop 1).take 8 = id := ⟨_, rfl⟩
          obtain ⟨l3, hl3⟩ : ∃ l3, (8 :: l2).drop 9 = l3 := ⟨_, rfl⟩
          have hxl := N.xl
          have hxc := N.xc
          have hn4 : n ≤ 3 := by omega
          have hid8 : id.length = 8 := by rw [← hid, List.length_take, List.length_drop]; omega
          have hl3n : l3.length = n2 := by rw [← hl3, List.length_drop]; omega
          have R1 : Hid (∀ W, Below wr.heap.size wr W → Rd W X1 (bv id)) := Lib.hid (fun W h => by
            have := hX1c.bytes (N.x.below h) (by rw [hxl]; omega) (by rw [hxl]; exact hxc.1)
            rw [show 9 - 1 = 8 from rfl, hid] at this
            exact this)
          have R2 : Hid (Rd wr X2 (bv l3)) := Lib.hid (by
            have := hX2c.bytes' N.x hxl hxc.1
            rw [hl3] at this
            exact this)
          have hX2b : Hid (∀ a, X2 = some a → a.block < g) := Lib.hid (fun a ha => by
            obtain ⟨a0, q1, q2⟩ := hX2c.blk a ha
            have := N.xb a0 q1
            omega)
          have CL := Lib.hid (fun W h => clone_to id 8 X1 c3 W hid8 h (fun e => by have := hX1c.nl e; cases this) (by omega))
          have hgd := heap_lt N.h
          have cell0 := wrote_cell N.h 33 _ (hcl_33 s r A n c N.r32)
          rw [hid, hl3] at hv
          have hwr : IntKind.i64.wrap ((j : Int) - 1) = (j2 : Int) := by rw [IntWalk.i64_in _ (by omega)]; omega
          have hjm : (j : Int) - 1 = (j2 : Int) := by omega
          have hj2b : j2 ≤ 4 ∧ n + 1 + j2 ≤ 4 ∧ j2 < j := by omega
          have hnn : n + 1 ≤ 4 := by omega
          have hgb : g < wr.heap.size := by omega
          replace N := Lib.hid N
          replace hv := Lib.hid hv
          replace hj2 := Lib.hid hj2
          replace hid8 := Lib.hid hid8
          replace hl3n := Lib.hid hl3n
          have hxc2 : Hid (n2 ≤ c2 ∧ c2 ≤ 9223372036854775807 ∧ n2 ≤ 1000) := Lib.hid ⟨by omega, by omega, by omega⟩
          clear hX1c hX2c hid hl3 hn2 hc2 hc3 hxl hxc
          go_wp2_with fail
          clear e1 d1 d1' g0
          go_region_law (first
            | (go_simp; go_at_call 22; refine (CL.out _ (R1.out _ (Still.drew wr).below)).mono ?_; rintro e w1 ⟨A1, k1, rfl, o1, b1⟩; have b2 : Below wr.heap.size wr w1 := (Still.drew wr).below.trans b1; have N2 := Lib.hid (N.out.below b2); have BA := Lib.hid (fun (W : World) (o : Obj) => ((Below.refl _ W).alloc (Nat.le_refl _) o : Below W.heap.size W (W.alloc o))); have O2 := Lib.hid (own_base (base2 := g) o1 (fun q hq => Nat.le_trans (Nat.le_of_lt hgb) (o1.lt q hq).1)); have cell1 := (b2.cell (p := ⟨g + 1, 33, none⟩) hgd).trans cell0; have cell1a := fun o => Lib.cell?_alloc_some o cell1; replace b2 := Lib.hid b2; clear b1 o1)
            | ((have PU := N2.out.below (BA.out w1 (.cells #[.slice A1 8 k1] 24)) |>.push hid8.out (O2.out.alloc _)); obtain ⟨vs, hvs, hstep⟩ := PU; refine step_app rfl _ _ 23 rfl g 24 (.slice none 0 0) 24 infoS Try.underlying23 rfl (.slice A n c) n vs rfl hvs (some ⟨w1.heap.size, 0, none⟩) 1 1 [.slice A1 8 k1] rfl rfl (Rd.fresh_mark w1 [.slice A1 8 k1] 24 (0, 0)) (by intro u hu; simp at hu; subst hu; rfl) (by unfold maxLen; omega) (by omega) (by have := heap_lt N2.out.z; simp; omega) ?_; intro A3 q3 w3 o3 g3 _; obtain ⟨cell3, fr3, NX⟩ := hstep w3 A3 q3 o3 g3; replace NX := Lib.hid NX; clear hvs hstep o3 g3))
          all_goals
            clear cell0 cell1 cell1a cell3 fr3
            go_wp2_with fail
            go_big_quiet (fail)
            go_wp2_with fail
            go_step3
            refine .inr ⟨rfl, ⟨j2, n + 1, q3, n2, c2, L, s, r, A3, X2, ids ++ [id], l3, (NX.out X2 n2 c2 l3 (R2.out.below ((b2.out).trans ((BA.out w1 _).mono b2.out.size))) hl3n.out hxc2.out hX2b.out).below (Still.drewN _ _).below, hj2b.1, hj2b.2.1, hL, hv.out, _, _, _, _, _, _, _, _, _, _, _, _, _, _, _, _, _, _, _, _, _, _, _, _, _, _, _, _, _, _, _, _, _, _, _, _, _, _, _, _, _, _, _, _, _, _, _, _, _, _, _, _, _, _, _, _, _, _, _, _, _, _, _, _, _, _, _, _, _, _, _, _, _, _, _, _, _, rfl⟩, ?_⟩
            simp [intOf]
            omega


        · have d2 : ((y.toNat : Int) != 8) = true := u8_nel (a := 8) hy
          obtain ⟨yv, hyv⟩ : ∃ yv : Int, (y.toNat : Int) = yv := ⟨_, rfl⟩
          rw [hyv] at d2 g0
          rw [if_pos (.inr (by simpa using hy))] at hv
          have hv2 : Hid (V = (hzero, 0, 5)) := Lib.hid hv
          replace N := Lib.hid N
          replace hj2 := Lib.hid hj2
          clear hv hyv hy
          go_wp2_with fail
          go_step3
          exact .inl ⟨rfl, hv2.out, N.out.gd, N.out.z, N.out.bel, _, _, _, _, _, _, _, _, _, _, _, _, _, _, _, _, _, _, _, _, _, _, _, _, _, _, _, _, _, _, _, _, _, _, _, _, _, _, _, _, _, _, _, _, _, _, _, _, _, _, _, _, _, _, _, _, _, _, _, _, _, _, _, _, _, _, _, _, _, _, _, _, _, _, _, _, _, _, _, _, _, rfl⟩
  · rintro a wr ⟨hv, hgd, hz, hb, u0, u1, u3, u4, u5, u6, u7, u8, u9, u10, u11, u12, u13, u14, u15, u16, u17, u18, u19, u20, u21, u22, u23, u24, u25, u26, u27, u28, u29, u30, u31, u32, u33, u34, u35, u36, u37, u38, u39, u40, u41, u42, u43, u44, u45, u46, u47, u48, u49, u50, u51, u52, u53, u54, u55, u56, u57, u58, u59, u60, u61, u62, u63, u64, u65, u66, u67, u68, u69, u70, u71, u72, u73, u74, u75, u76, u77, u78, u79, u80, u81, rfl⟩
    have HB := fun w => build27 w
    replace hv := Lib.hid hv
    replace hgd := Lib.hid hgd
    replace hb := Lib.hid hb
    have hglt := heap_lt hz
    replace hz := Lib.hid hz
    go_wp2_with (refine wpList_store_block rfl 27 (.tmp 2) (.tmp 81) rfl g 0 hz34 rfl rfl hz34.toArray _ hz.out (Nat.le_of_eq hz34_size.symm) hinfo27 hz34_one ?_; intro w2 h2 F2)
    rw [over_full hz34 _ hz34_size] at h2
    simp only [JumpTo]
    exact bodyPost_ret (results_cell3 Try.results19 _ w2 g 27 hz34.toArray _ rfl h2 Try.underlying27 rfl hinfo27) rfl (retH_zero hv.out hgd.out (bel_at hb.out (Nat.le_of_lt hglt) (Nat.le_refl _) F2))
  · intro hp
    have HB := fun w => build27 w
    have HO : Hid (∀ cs, cs = #[Value.int .i64 1, .int .i64 2] → ∀ w3, w3 = ((w0.alloc (.cells hz34.toArray 27)).alloc (.cells hz34.toArray 27)).alloc (.cells cs 3) → w3.heap[g]? = some (.cells hz34.toArray 27 (0, 0)) ∧ w3.heap[g + 1]? = some (.cells hz34.toArray 27 (0, 0)) ∧ Below g w0 w3 ∧ Rd w3 (some ⟨g + 2, 0, none⟩) (iv [1, 2])) := Lib.hid (fun cs hcs w3 hw3 => by
      subst hcs
      have hg' := hg.out
      have a1 := heap_alloc_new w0 (.cells hz34.toArray 27)
      have s1 : (w0.alloc (.cells hz34.toArray 27)).heap.size = g + 1 := by simp [hg']
      obtain ⟨wa, hwa⟩ : ∃ wa, w0.alloc (.cells hz34.toArray 27) = wa := ⟨_, rfl⟩
      have b1 : Below g w0 wa := by rw [← hwa]; exact (Below.refl _ w0).alloc (by rw [hg']; exact Nat.le_refl _) _
      rw [hwa] at a1 s1 hw3
      rw [hg'] at a1
      have a2 := heap_alloc_new wa (.cells hz34.toArray 27)
      have f2 := Fr.of_below ((Below.refl wa.heap.size wa).alloc (Nat.le_refl _) (.cells hz34.toArray 27)) NoS
      have s2 : (wa.alloc (.cells hz34.toArray 27)).heap.size = g + 2 := by simp [s1]
      have b2 : Below g w0 (wa.alloc (.cells hz34.toArray 27)) := b1.alloc (by omega) _
      obtain ⟨wb, hwb⟩ : ∃ wb, wa.alloc (.cells hz34.toArray 27) = wb := ⟨_, rfl⟩
      rw [hwb] at a2 f2 s2 b2 hw3
      rw [s1] at a2
      have a3 := heap_fr a1 f2 (fun x => x)
      have f3 := Fr.of_below ((Below.refl wb.heap.size wb).alloc (Nat.le_refl _) (.cells (iv [1, 2]).toArray 3)) NoS
      have hw3' : w3 = wb.alloc (.cells (iv [1, 2]).toArray 3) := hw3
      subst hw3'
      exact ⟨heap_fr a3 f3 (fun x => x), heap_fr a2 f3 (fun x => x), b2.alloc (by omega) _, Rd.fresh_to s2 (iv [1, 2]) _ _⟩)
    have KB := Lib.hid (fun W K (h1 : Rd W A0 (bv l)) (h2 : Rd W K (iv [1, 2])) => hbody_any l [1, 2] A0 K c0 n0 2 2 W hn.out rfl h1 h2 hl hc hcc (by omega))
    go_wp2_with fail
    have hgo := hg.out
    simp only [hgo]
    change Calls _ _ #[.slice A0 n0 c0, .slice (some ⟨g + 2, 0, none⟩) 2 2] (((w0.alloc (.cells hz34.toArray 27)).alloc (.cells hz34.toArray 27)).alloc (.cells #[Value.int .i64 1, .int .i64 2] 3)) _
    have K0 := HO.out _ rfl _ rfl
    obtain ⟨w3, hw3⟩ : ∃ w3, ((w0.alloc (.cells hz34.toArray 27)).alloc (.cells hz34.toArray 27)).alloc (.cells #[Value.int .i64 1, .int .i64 2] 3) = w3 := ⟨_, rfl⟩
    rw [hw3] at K0 ⊢
    clear hw3 HO hgo
    obtain ⟨z3, h3, b3, k3⟩ := K0
    have KC := KB.out w3 _ (hr.out.below (by have := b3; rw [← hg.out] at this; exact this)) k3
    have HGet : Hid (V = hget l) := Lib.hid hV.out.symm
    unfold hget at HGet
    obtain ⟨⟨kd, xs, ev⟩, hq⟩ : ∃ q, hbody l [1, 2] = q := ⟨_, rfl⟩
    rw [hq] at KC HGet
    simp only at HGet
    replace hq := Lib.hid hq
    clear KB k3
    replace z3 := Lib.hid z3
    replace h3 := Lib.hid h3
    replace b3 := Lib.hid b3
    refine KC.mono ?_
    rintro e w4 ⟨X, c1, n1, rfl, hlen, hnc, hcc1, hn1000, RX, hblk, ST⟩
    simp only at hlen RX
    have z4 := Lib.hid (by rw [ST.heap]; exact z3.out : w4.heap[g]? = some (.cells hz34.toArray 27 (0, 0)))
    have h4 := Lib.hid (by rw [ST.heap]; exact h3.out : w4.heap[g + 1]? = some (.cells hz34.toArray 27 (0, 0)))
    have b4 := Lib.hid (b3.out.trans (ST.below.mono (by have := heap_lt z3.out; omega)))
    clear KC ST z3 h3 b3
    replace hcc1 : c1 ≤ 9223372036854775807 := Nat.le_trans hcc1 hcc
    obtain ⟨L, hL⟩ : ∃ L, 4 + n1 = L := ⟨_, rfl⟩
    have hLI : (4 : Int) + (n1 : Int) = (L : Int) := by omega
    have hLb : L ≤ 2000 := by omega
    replace hL := Lib.hid hL
    by_cases he : ev = 0
    · subst he
      replace HGet := HGet.out
      rw [if_neg (by simp)] at HGet
      by_cases h33 : n1 < 33
      · have d1 : decide ((n1 : Int) < 33) = true := decide_eq_true (by omega)
        have d1' : decide (n1 < 33) = true := decide_eq_true h33
        rw [hlen, if_pos h33] at HGet
        replace HGet := Lib.hid HGet
        replace hlen := Lib.hid hlen
        replace RX := Lib.hid RX
        replace hblk := Lib.hid hblk
        go_wp2_with fail
        go_step3
        exact .inl ⟨rfl, HGet.out, hg.out.symm, z4.out, b4.out, _, _, _, _, _, _, _, _, _, _, _, _, _, _, _, _, _, _, _, _, _, _, _, _, _, _, _, _, _, _, _, _, _, _, _, _, _, _, _, _, _, _, _, _, _, _, _, _, _, _, _, _, _, _, _, _, _, _, _, _, _, _, _, _, _, _, _, _, _, _, _, _, _, _, _, _, _, _, _, _, _, rfl⟩
      · have d1 : decide ((n1 : Int) < 33) = false := decide_eq_false (by omega)
        have d1' : decide (n1 < 33) = false := decide_eq_false h33
        rw [hlen, if_neg h33] at HGet
        obtain ⟨b, off, rfl, gm⟩ := RX.at_ (k := 32) (by rw [bv_length, hlen]; omega)
        have hRr : w4.rangeAt b off (bv (xs.take 32)) := fun q v hv => by
          obtain ⟨b', off', e', hc'⟩ := RX (by rw [bv_length, hlen]; omega)
          injection e' with e'
          injection e' with e1 e2
          subst e1 e2
          refine hc' q v ?_
          rw [bv, List.map_take, List.getElem?_take] at hv
          split at hv
          · exact hv
          · cases hv
        have hgb : b < g := by
          obtain ⟨a0, q1, q2⟩ := hblk _ rfl
          have := hAlt.out a0 q1 (by
            by_cases h : n0 = 0
            · exfalso
              have h1 := hq.out
              have h2 : l = [] := List.eq_nil_of_length_eq_zero (by rw [hn.out]; exact h)
              rw [h2] at h1
              have h3 : hbody [] [1, 2] = (0, [], 3) := rfl
              rw [h3] at h1
              injection h1 with _ h1
              injection h1 with _ h1
              exact absurd h1 (by decide)
            · omega)
          rw [hg.out] at this
          simp only at q2
          omega
        have hr32 : (xs.take 32).length = 32 := by rw [List.length_take, hlen]; omega
        have hxg : (bv xs)[32]? = some (.int .u8 ((xs.getD 32 0).toNat : Int)) := by
          rw [bv_get (k := 32) (by rw [hlen]; omega), List.getD_eq_getElem?_getD, List.getElem?_eq_getElem (by rw [hlen]; omega)]; rfl
        have gm2 : w4.cell? ⟨b, off + 32, none⟩ = some (.int .u8 ((xs.getD 32 0).toNat : Int)) := by
          rw [gm, ← hxg, List.getElem?_eq_getElem]
        obtain ⟨X2, hX2, hX2c⟩ := cut_l (P := Try.prog) Try.underlying24 infoB (some ⟨b, off, none⟩) n1 c1 33 (by omega) hnc
        have R2 : Hid (Rd w4 X2 (bv (xs.drop 33))) := Lib.hid (hX2c.bytes' RX hlen hnc)
        have hX2b : Hid (∀ a, X2 = some a → a.block < g) := Lib.hid (fun a ha => by
          obtain ⟨a0, q1, q2⟩ := hX2c.blk a ha
          injection q1 with q1
          subst q1
          simp only at q2
          omega)
        obtain ⟨n2, hn2⟩ : ∃ n2, n1 - 33 = n2 := ⟨_, rfl⟩
        obtain ⟨c2, hc2⟩ : ∃ c2, c1 - 33 = c2 := ⟨_, rfl⟩
        rw [hn2, hc2] at hX2
        replace hX2 : ∀ w : World, (Instr.sliceAt 24 (.slice (some ⟨b, off, none⟩) n1 c1) (some (.int .i64 33)) none none).run Try.prog w = .ok (.slice X2 n2 c2) w := hX2
        have hl2 : Hid ((xs.drop 33).length = n2) := Lib.hid (by rw [List.length_drop, hlen]; exact hn2)
        have hxc2 : Hid (n2 ≤ c2 ∧ c2 ≤ 9223372036854775807 ∧ n2 ≤ 1000) := Lib.hid ⟨by omega, by omega, by omega⟩
        obtain ⟨s, hs⟩ : ∃ s, (kd == 2) = s := ⟨_, rfl⟩
        obtain ⟨r, hr8⟩ : ∃ r, xs.take 32 = r := ⟨_, rfl⟩
        obtain ⟨m, hm⟩ : ∃ m, (xs.getD 32 0).toNat = m := ⟨_, rfl⟩
        obtain ⟨l2, hl2e⟩ : ∃ l2, xs.drop 33 = l2 := ⟨_, rfl⟩
        have hmb : m ≤ 255 := by have := UInt8.toNat_lt (xs.getD 32 0); omega
        rw [hr8] at hRr hr32 HGet
        rw [hm] at gm2 HGet
        rw [hl2e] at R2 hl2 HGet
        rw [hs] at HGet
        have hTh : w4.there (g + 1) 1 32 := there_of_block h4.out 1 32 (by rw [hz34_size]; omega)
        have hc0 := wrote_cell h4.out 0 (.bool false) rfl
        have hf0 := frozen_of_row w4 (g + 1) 0 _ _ h4.out
        have hbvl : (bv r).length = 32 := by simp [hr32]
        have HN : Hid (∀ w5, w5 = (w4.setCell ⟨g + 1, 0, none⟩ (.bool s)).drew.setCells (g + 1) 1 (bv r) → Nx w0 w5 g s r none 0 0 [] X2 n2 c2 l2) := Lib.hid (fun w5 hw5 => by
          subst hw5
          have k1 := heap_setCell_same w4 (g + 1) 0 _ _ (.bool s) h4.out
          have k2 := heap_setCells (bv r) (w4.setCell ⟨g + 1, 0, none⟩ (.bool s)).drew (g + 1) 1 _ _ k1
          rw [hcl_first s r hr32] at k2
          have F : Fr (fun k => k = g + 1) w4 ((w4.setCell ⟨g + 1, 0, none⟩ (.bool s)).drew.setCells (g + 1) 1 (bv r)) := ((Fr.refl (fun k => k = g + 1) w4).setCell (p := ⟨g + 1, 0, none⟩) (fun _ => rfl) _).drew.trans (fr_setCells (bv r) _ (g + 1) 1)
          have hglt := heap_lt z4.out
          exact ⟨hg.out.symm, heap_fr z4.out F (by omega), k2, hr32, Ids.nil _ _, R2.out.fr F (fun hp a ha e => by have := hX2b.out a ha; omega), hl2.out, hxc2.out, hX2b.out, bel_at b4.out (Nat.le_of_lt hglt) (by omega) F⟩)
        have hgm5 : Hid (∀ w5, w5 = (w4.setCell ⟨g + 1, 0, none⟩ (.bool s)).drew.setCells (g + 1) 1 (bv r) → w5.cell? ⟨b, off + 32, none⟩ = some (.int .u8 (m : Int))) := Lib.hid (fun w5 hw5 => by
          subst hw5
          have F : Fr (fun k => k = g + 1) w4 ((w4.setCell ⟨g + 1, 0, none⟩ (.bool s)).drew.setCells (g + 1) 1 (bv r)) := ((Fr.refl (fun k => k = g + 1) w4).setCell (p := ⟨g + 1, 0, none⟩) (fun _ => rfl) _).drew.trans (fr_setCells (bv r) _ (g + 1) 1)
          exact (F.cell (p := ⟨b, off + 32, none⟩) (World.block_lt_of_cell? w4 _ gm2) (by simp only; omega)).trans gm2)
        have hkp : Hid (∀ (W : World) (v : Value), (W.rangeAt b off (bv r) ∧ W.there (g + 1) 1 32) → (W.setCell ⟨g + 1, 0, none⟩ v).rangeAt b off (bv r) ∧ (W.setCell ⟨g + 1, 0, none⟩ v).there (g + 1) 1 32) := Lib.hid (fun W v h => by
          have k1 := World.rangeAt_setCells_apart h.1 (g + 1) 0 [v] (.inl (by omega))
          have k2 := World.there_setCells h.2 (g + 1) 0 [v]
          exact ⟨k1, k2⟩)
        have hkq : Hid (∀ (W : World), (W.rangeAt b off (bv r) ∧ W.there (g + 1) 1 32) → (W.setCells (g + 1) 1 (bv r)).rangeAt b off (bv r) ∧ (W.setCells (g + 1) 1 (bv r)).there (g + 1) 1 32) := Lib.hid (fun W h => ⟨World.rangeAt_setCells_apart h.1 (g + 1) 1 (bv r) (.inl (by omega)), World.there_setCells h.2 (g + 1) 1 (bv r)⟩)
        have hu22 := Try.underlying22
        have hi22 : (Try.prog.info? 22).map (·.size) = some (bv r).length := by rw [hbvl]; exact hinfo22
        have h1r := bv_one r
        replace HGet := Lib.hid HGet
        replace hlen := Lib.hid hlen
        replace RX := Lib.hid RX
        replace hblk := Lib.hid hblk
        replace hr8 := Lib.hid hr8
        replace hm := Lib.hid hm
        replace hl2e := Lib.hid hl2e
        replace hn2 := Lib.hid hn2
        replace hc2 := Lib.hid hc2
        clear hxg gm hX2c
        have i32 : (32 : Int) < (n1 : Int) := by omega
        have i33 : (33 : Int) ≤ (n1 : Int) := by omega
        have hap : ∀ w : World, (Instr.arrayAt 22 (.slice (some ⟨b, off, none⟩) n1 c1)).run Try.prog w = .ok (.pointer (some ⟨b, off, none⟩)) w := fun w => by
          simp [Instr.arrayAt, run_underlying Try.underlying22, (by omega : ¬ n1 < 32)]
          exact fun h => absurd h (by omega)
        go_wp2_with fail
        refine wp_region_held_drew (S := fun W => W.rangeAt b off (bv r) ∧ W.there (g + 1) 1 32) (by kernel_rfl) ⟨hRr, hTh⟩ (fun hHeld => ?_)
        refine wpAnyH_take (i := 0) (v := ?_) rfl (by kernel_rfl) (by kernel_rfl) (by kernel_rfl) (fun _ _ _ h => h) (Or.inl ⟨by rfl, ?_⟩) (by assumption) ?_
        rotate_left 1
        · (intro w hSw; (try dsimp only at hSw); go_simp; try with_reducible rfl)
        try simp only [Act.put, List.setIfInBounds_toArray, List.set_cons_zero, List.set_cons_succ, List.getElem_toArray, List.getElem_cons_zero, List.getElem_cons_succ]
        refine wpAnyH_take (i := 1) (v := ?_) rfl (by kernel_rfl) (by kernel_rfl) (by kernel_rfl) (fun _ _ _ h => h) (Or.inl ⟨by rfl, ?_⟩) (by assumption) ?_
        rotate_left 1
        · (intro w hSw; (try dsimp only at hSw); go_simp; try with_reducible rfl)
        try simp only [Act.put, List.setIfInBounds_toArray, List.set_cons_zero, List.set_cons_succ, List.getElem_toArray, List.getElem_cons_zero, List.getElem_cons_succ]
        refine wpAnyH_take (i := 2) (v := ?_) rfl (by kernel_rfl) (by kernel_rfl) (by kernel_rfl) (fun _ _ _ h => h) (Or.inl ⟨by rfl, ?_⟩) (by assumption) ?_
        rotate_left 1
        · (intro w hSw; (try dsimp only at hSw); go_simp; try with_reducible rfl)
        try simp only [Act.put, List.setIfInBounds_toArray, List.set_cons_zero, List.set_cons_succ, List.getElem_toArray, List.getElem_cons_zero, List.getElem_cons_succ]
        refine wpAnyH_take (i := 3) (v := ?_) rfl (by kernel_rfl) (by kernel_rfl) (by kernel_rfl) (fun _ _ _ h => h) (Or.inl ⟨by rfl, ?_⟩) (by assumption) ?_
        rotate_left 1
        · (intro w hSw; (try dsimp only at hSw); go_simp; try with_reducible rfl)
        try simp only [Act.put, List.setIfInBounds_toArray, List.set_cons_zero, List.set_cons_succ, List.getElem_toArray, List.getElem_cons_zero, List.getElem_cons_succ]
        refine wpAnyH_take (i := 4) (v := .agg (bv r).toArray) rfl (by kernel_rfl) (by kernel_rfl) (by kernel_rfl) (fun _ _ _ h => h) (yieldsIf_load_mid (by rfl) 22 (.tmp 31) rfl b off rfl (bv r) _ (fun _ h => h.1) hu22 rfl hi22) (by assumption) ?_
        try simp only [Act.put, List.setIfInBounds_toArray, List.set_cons_zero, List.set_cons_succ, List.getElem_toArray, List.getElem_cons_zero, List.getElem_cons_succ]
        refine wpAnyH_take (i := 5) (v := ?_) rfl (by kernel_rfl) (by kernel_rfl) (by kernel_rfl) (fun _ _ _ h => h) (Or.inl ⟨by rfl, ?_⟩) (by assumption) ?_
        rotate_left 1
        · (intro w hSw; (try dsimp only at hSw); go_simp; try with_reducible rfl)
        try simp only [Act.put, List.setIfInBounds_toArray, List.set_cons_zero, List.set_cons_succ, List.getElem_toArray, List.getElem_cons_zero, List.getElem_cons_succ]
        refine wpAnyH_ready (rs := [6]) (by kernel_rfl) (by simp) ?_
        refine AllReadyH.cons rfl (fun K hK => ?_) AllReadyH.nil
        go_simp
        refine hK.out _ _ (hkp.out _ _ (by assumption)) (fun hHeld2 => ?_)
        clear hK K hHeld
        try simp only [Act.put, List.setIfInBounds_toArray, List.set_cons_zero, List.set_cons_succ, List.getElem_toArray, List.getElem_cons_zero, List.getElem_cons_succ]
        refine wpAnyH_take (i := 7) (v := ?_) rfl (by kernel_rfl) (by kernel_rfl) (by kernel_rfl) (fun _ _ _ h => h) (Or.inl ⟨by rfl, ?_⟩) (by assumption) ?_
        rotate_left 1
        · (intro w hSw; (try dsimp only at hSw); go_simp; try with_reducible rfl)
        try simp only [Act.put, List.setIfInBounds_toArray, List.set_cons_zero, List.set_cons_succ, List.getElem_toArray, List.getElem_cons_zero, List.getElem_cons_succ]
        refine wpAnyH_ready (rs := [8]) (by kernel_rfl) (by simp) ?_
        refine AllReadyH.cons rfl (fun K hK => ?_) AllReadyH.nil
        rw [if_pos (by rfl)]
        refine wp_store_mid 22 (.tmp 34) (.tmp 32) rfl (g + 1) 1 (bv r).toArray rfl rfl (by simpa [hbvl] using hHeld2.2) (by simpa using hi22) (all_oneCell_toArray h1r) ?_
        simp only [List.toList_toArray]
        refine hK.out _ _ (hkq.out _ (by assumption)) (fun hHeld3 => ?_)
        clear hK K hHeld2
        try simp only [Act.put, List.setIfInBounds_toArray, List.set_cons_zero, List.set_cons_succ, List.getElem_toArray, List.getElem_cons_zero, List.getElem_cons_succ]
        refine wpAnyH_done (by kernel_rfl) ?_ _
        clear hHeld3 hRr hTh hkp hkq
        have NN := Lib.hid (HN.out _ rfl)
        have gm5 := hgm5.out _ rfl
        obtain ⟨w5, hw5⟩ : ∃ w5, (w4.setCell ⟨g + 1, 0, none⟩ (.bool s)).drew.setCells (g + 1) 1 (bv r) = w5 := ⟨_, rfl⟩
        rw [hw5] at NN gm5 ⊢
        clear hw5 HN hgm5 hc0 hf0 gm2 z4 h4 b4 hu22 hi22 h1r hap hbvl
        by_cases hm4 : m < 1 ∨ 4 < m
        · have HG2 : Hid (V = (hzero, 0, 5)) := Lib.hid (by rw [HGet.out, if_pos hm4])
          rcases hm4 with h | h
          · have d3 : decide ((m : Int) < 1) = true := decide_eq_true (by omega)
            have d3' : decide (m < 1) = true := decide_eq_true h
            replace h := Lib.hid h
            go_wp2_with fail
            go_big_quiet (fail)
            go_wp2_with fail
            go_step3
            exact .inl ⟨rfl, HG2.out, hg.out.symm, NN.out.z, NN.out.bel.trans ((Still.drewN w5 nq).below.mono (by have := heap_lt NN.out.z; omega)), _, _, _, _, _, _, _, _, _, _, _, _, _, _, _, _, _, _, _, _, _, _, _, _, _, _, _, _, _, _, _, _, _, _, _, _, _, _, _, _, _, _, _, _, _, _, _, _, _, _, _, _, _, _, _, _, _, _, _, _, _, _, _, _, _, _, _, _, _, _, _, _, _, _, _, _, _, _, _, _, _, rfl⟩
          · have d3 : decide ((m : Int) < 1) = false := decide_eq_false (by omega)
            have d3' : decide (m < 1) = false := decide_eq_false (by omega)
            have d4 : decide ((4 : Int) < (m : Int)) = true := decide_eq_true (by omega)
            have d4' : decide (4 < m) = true := decide_eq_true h
            replace h := Lib.hid h
            go_wp2_with fail
            go_big_quiet (fail)
            go_wp2_with fail
            go_step3
            exact .inl ⟨rfl, HG2.out, hg.out.symm, NN.out.z, NN.out.bel.trans ((Still.drewN w5 nq).below.mono (by have := heap_lt NN.out.z; omega)), _, _, _, _, _, _, _, _, _, _, _, _, _, _, _, _, _, _, _, _, _, _, _, _, _, _, _, _, _, _, _, _, _, _, _, _, _, _, _, _, _, _, _, _, _, _, _, _, _, _, _, _, _, _, _, _, _, _, _, _, _, _, _, _, _, _, _, _, _, _, _, _, _, _, _, _, _, _, _, _, _, rfl⟩
        · have HG2 : Hid (V = hfin s r L (hgl m l2 [])) := Lib.hid (by rw [HGet.out, if_neg hm4, hL.out])
          have d3 : decide ((m : Int) < 1) = false := decide_eq_false (by omega)
          have d3' : decide (m < 1) = false := decide_eq_false (by omega)
          have d4 : decide ((4 : Int) < (m : Int)) = false := decide_eq_false (by omega)
          have d4' : decide (4 < m) = false := decide_eq_false (by omega)
          have hm5 : m ≤ 4 := by omega
          clear hm4
          go_wp2_with fail
          go_big_quiet (fail)
          go_wp2_with fail
          go_step3
          simp only [Exit.then]
          apply_assumption
          refine hp _ _ ?_
          exact ⟨m, 0, 0, n2, c2, L, s, r, none, X2, [], l2, NN.out.below (Still.drewN w5 nq).below, hm5, by omega, hLb, HG2.out, _, _, _, _, _, _, _, _, _, _, _, _, _, _, _, _, _, _, _, _, _, _, _, _, _, _, _, _, _, _, _, _, _, _, _, _, _, _, _, _, _, _, _, _, _, _, _, _, _, _, _, _, _, _, _, _, _, _, _, _, _, _, _, _, _, _, _, _, _, _, _, _, _, _, _, _, _, rfl⟩
    · replace HGet := HGet.out
      rw [if_pos he] at HGet
      have d1 : (ev != 0) = true := by rw [bne_iff_ne]; exact he
      replace HGet := Lib.hid HGet
      replace hlen := Lib.hid hlen
      replace RX := Lib.hid RX
      replace hblk := Lib.hid hblk
      have hglt := heap_lt z4.out
      go_wp2_with (refine wpList_store_block rfl 27 (.tmp 2) (.tmp 23) rfl g 0 hz34 rfl rfl hz34.toArray _ z4.out (Nat.le_of_eq hz34_size.symm) hinfo27 hz34_one ?_; intro w5 h5 F5)
      rw [over_full hz34 _ hz34_size] at h5
      simp only [JumpTo]
      exact bodyPost_ret (results_cell3 Try.results19 _ w5 g 27 hz34.toArray _ rfl h5 Try.underlying27 rfl hinfo27) rfl (retH_zero HGet.out hg.out.symm (bel_at b4.out (Nat.le_of_lt hglt) (Nat.le_refl _) F5))
end Go.Proofs.Ytlepceajpgloeaa
