/- The document's Flight: Sent. -/
import Derived.Test.YtifigmhecgbfoaaFrA
namespace Go.Proofs.Ytifigmhecgbfoaa
open Go.RowKit
section
variable {w w' : World} {p : Nat} {A : Option Addr} {c top : Nat} {P : List Pr} {heard : Bool}
theorem snoc_cases {α : Type} (l : List α) : l = [] ∨ ∃ l' x, l = l' ++ [x] := by
  rcases List.eq_nil_or_concat l with h | ⟨l', x, h⟩
  · exact .inl h
  · exact .inr ⟨l', x, by rw [h, List.concat_eq_append]⟩
def plast (P : List Pr) : Nat × Nat := match P.getLast? with | some x => (x.num, x.tick) | none => (0, 0)
def rsentok (P : List Pr) (num : Nat) (tick : Int) : Bool := decide (num ≤ 4611686018427387903) && decide (((plast P).2 : Int) ≤ tick) && !(!P.isEmpty && decide (num ≤ (plast P).1))
theorem plast_snoc (P : List Pr) (x : Pr) : plast (P ++ [x]) = (x.num, x.tick) := by simp [plast]

set_option maxRecDepth 100000 in
set_option maxHeartbeats 4000000 in
theorem rsent_no (h : IsRf w p A c P top heard) (num : Nat) (tick : Int) (cnt : Bool) (hn : num < 18446744073709551616) (ho : rsentok P num tick = false) :
    Calls Try.prog 17 #[.pointer (some ⟨p, 0, none⟩), .int .u64 num, .int .i64 tick, .bool cnt] w fun e w' => e = .returned (.bool false) ∧ w = w' := by
  have c0 := wrote_cell h.cell 0 _ rfl
  have hs := h.small
  obtain ⟨N, hN⟩ : ∃ N : Int, (num : Int) = N := ⟨_, rfl⟩
  rw [hN]
  have hN1 : N < 18446744073709551616 := by omega
  have hN0 : 0 ≤ N := by omega
  by_cases h1 : 4611686018427387903 < N
  · clear h ho hN hn hN0
    go_enter Try.func17, Try.ntmps17
    go_wp2_with fail
    all_goals (go_ret; exact ⟨rfl, rfl⟩)
  · by_cases h2 : tick < 0
    · clear h ho hN hn hN0
      go_enter Try.func17, Try.ntmps17
      go_wp2_with fail
      all_goals (go_ret; exact ⟨rfl, rfl⟩)
    · rcases snoc_cases P with rfl | ⟨P', x, rfl⟩
      · exfalso
        have e : rsentok [] num tick = true := by
          unfold rsentok
          rw [decide_eq_true (by omega : num ≤ 4611686018427387903), decide_eq_true (by simp [plast]; omega)]
          rfl
        rw [e] at ho
        cases ho
      · have hlen : (P' ++ [x]).length = P'.length + 1 := by simp
        have hx : (P' ++ [x])[P'.length]'(by simp) = x := by simp
        obtain ⟨g, rfl, _, _, hc1, hc2, g0, g1, _, _⟩ := h.elt (k := P'.length) (by simp)
        rw [hx] at g0 g1
        rw [hlen] at c0 hs hc1
        obtain ⟨k, hk⟩ : ∃ k, P'.length = k := ⟨_, rfl⟩
        obtain ⟨m, hm⟩ : ∃ m, P'.length + 1 = m := ⟨_, rfl⟩
        have hmk : (m : Int) - 1 = k := by omega
        rw [hm] at c0 hs hc1
        rw [hk] at g0 g1
        obtain ⟨L, hL⟩ : ∃ L : Int, (x.num : Int) = L := ⟨_, rfl⟩
        obtain ⟨T, hT⟩ : ∃ T : Int, (x.tick : Int) = T := ⟨_, rfl⟩
        rw [hL] at g0
        rw [hT] at g1
        have hkm : k < m := by omega
        have hz : (0 : Int) ≤ k := by omega
        have ho2 : N ≤ L ∨ (L < N ∧ tick < T) := by
          unfold rsentok at ho
          rw [plast_snoc] at ho
          rcases Int.lt_or_le L N with h3 | h3
          · right
            refine ⟨h3, ?_⟩
            rw [decide_eq_true (by omega : num ≤ 4611686018427387903), decide_eq_false (by simp; omega : ¬ num ≤ (x.num, x.tick).1)] at ho
            simp at ho
            omega
          · exact .inl h3
        clear h ho hN hn hN0 hlen hx hk hm hL hT
        rcases ho2 with h3 | ⟨h3, h4⟩
        · go_enter Try.func17, Try.ntmps17
          go_wp2_with fail
          all_goals (go_ret; exact ⟨rfl, rfl⟩)
        · go_enter Try.func17, Try.ntmps17
          go_wp2_with fail
          all_goals (go_ret; exact ⟨rfl, rfl⟩)

/-- What Sent leaves. -/
def RSentPost (p : Nat) (A : Option Addr) (P : List Pr) (top : Nat) (heard : Bool) (w : World) (e : Ending) (w' : World) : Prop :=
  e = .returned (.bool true) ∧ ∃ A' c', IsRf w' p A' c' P top heard ∧ Fr (OnFl p A) w w' ∧ Next w A A'
theorem rsent_end (h : IsRf w p A c P top heard) (x : Pr) (hx : x.ok) (hs : P.length < 100000) (mk : Nat × Nat) (A' : Option Addr) (c' n1 : Nat) (hn1 : P.length + 1 = n1) (w1 : World)
    (ho : w1.ownsRow 0 68 4 (.slice A' n1 c') n1 (rv Pr.cells P ++ x.cells)) (hg : (w.alloc (.cells x.cells.toArray 68 mk)).grownBy w1 (Value.slice A P.length c).ownBlock)
    (hat : (Value.slice A' n1 c').ownBlock = (Value.slice A P.length c).ownBlock ∨ (Value.slice A' n1 c').ownBlock = some (w.alloc (.cells x.cells.toArray 68 mk)).heap.size) :
    w1.cell? ⟨p, 0, none⟩ = some (.slice A P.length c) ∧ w1.frozen? ⟨p, 0, none⟩ = false ∧ RSentPost p A (P ++ [x]) top heard w (.returned (.bool true)) (w1.setCell ⟨p, 0, none⟩ (.slice A' n1 c')) := by
  subst hn1
  have hne : ∀ k, (Value.slice A P.length c).ownBlock = some k → k ≠ p := fun k hk => by
    obtain ⟨a, ha, rfl⟩ := own_some hk
    exact h.ne a ha
  have H1 : w1.heap[p]? = some (.cells #[.slice A P.length c, .int .u64 top, .bool heard] 46 (0, 0)) := by
    rw [hg.block p (by have := h.lt; simp; omega) (fun e => hne p e.symm rfl), heap_alloc_old _ _ h.lt]; exact h.cell
  have HS := heap_setCell_same w1 p 0 _ _ (.slice A' (P.length + 1) c') H1
  have FG : Fr (OnFl p A) w w1 := ((Fr.refl _ w).alloc _).grown hg (fun k hk _ => .inr (own_some hk))
  have hne' : ∀ k, (Value.slice A' (P.length + 1) c').ownBlock = some k → k ≠ p := fun k hk => by
    rcases hat with e | e
    · rw [e] at hk; exact hne k hk
    · rw [e] at hk; injection hk with hk; have := h.lt; simp at hk; omega
  refine ⟨wrote_cell H1 0 _ rfl, frozen_of_row w1 p 0 _ _ H1, rfl, A', c', ⟨?_, ?_, ?_, ?_, h.top⟩, FG.setCell (p := ⟨p, 0, none⟩) (fun _ => .inl rfl) _, fun a ha => ?_⟩
  · rw [HS]; simp
  · rw [rv_append, rv_single, List.length_append, List.length_singleton]
    exact own_fr ho ((Fr.refl (fun k => k = p) w1).setCell (p := ⟨p, 0, none⟩) (fun _ => rfl) _) (fun k hk => hne' k hk)
  · simp; omega
  · intro y hy
    rcases List.mem_append.1 hy with hy | hy
    · exact h.oks y hy
    · rw [List.mem_singleton.1 hy]; exact hx
  · have hk : (Value.slice A' (P.length + 1) c').ownBlock = some a.block := by rw [ha]; rfl
    rcases hat with e | e
    · rw [e] at hk
      obtain ⟨b, hb, hb2⟩ := own_some hk
      exact .inl ⟨b, hb, hb2⟩
    · rw [e] at hk; injection hk with hk
      exact .inr (by simp at hk; omega)

set_option maxRecDepth 100000 in
set_option maxHeartbeats 4000000 in
theorem rsent_yes (h : IsRf w p A c P top heard) (num tick : Nat) (cnt : Bool) (hs : P.length < 100000) (ht : tick ≤ 9223372036854775807) (ho : rsentok P num tick = true) :
    Calls Try.prog 17 #[.pointer (some ⟨p, 0, none⟩), .int .u64 num, .int .i64 tick, .bool cnt] w (RSentPost p A (P ++ [⟨num, tick, cnt, true⟩]) top heard w) := by
  have c0 := wrote_cell h.cell 0 _ rfl
  have h1 : num ≤ 4611686018427387903 := by unfold rsentok at ho; simp at ho; omega
  have HE := Lib.hid (fun mk A' c' n1 hn1 w1 => rsent_end h ⟨num, tick, cnt, true⟩ ⟨h1, ht⟩ hs mk A' c' n1 hn1 w1)
  have hrow := Lib.hid h.row
  obtain ⟨N, hN⟩ : ∃ N : Int, (num : Int) = N := ⟨_, rfl⟩
  obtain ⟨K, hK⟩ : ∃ K : Int, (tick : Int) = K := ⟨_, rfl⟩
  have hcs : (⟨num, tick, cnt, true⟩ : Pr).cells = [.int .u64 N, .int .i64 K, .bool cnt, .bool true] := by rw [← hN, ← hK]; rfl
  rw [hcs] at HE
  rw [hN, hK]
  have hN0 : 0 ≤ N := by omega
  have hN1 : N ≤ 4611686018427387903 := by omega
  have hK0 : 0 ≤ K := by omega
  have hsz : Hid (P.length < 100000) := Lib.hid hs
  rcases snoc_cases P with hP | ⟨P', x, hP⟩
  · obtain ⟨m, hm⟩ : ∃ m, P.length = m := ⟨_, rfl⟩
    have hm0 : m = 0 := by rw [← hm, hP]; rfl
    rw [hm] at c0 HE hrow hs
    replace hm := Lib.hid hm
    subst hm0
    replace hP := Lib.hid hP
    clear h hN hK ho h1 hcs hsz ht
    go_enter Try.func17, Try.ntmps17
    go_wp2_with (at_builtin; (refine wpList_appS rfl _ _ 44 rfl 0 68 _ 4 24 infoR Try.underlying44 rfl (by decide) (.slice A 0 c) 0 (rv Pr.cells P) rfl (hrow.out.alloc _) _ 1 _ [.int .u64 N, .int .i64 K, .bool cnt, .bool true] rfl rfl (Rd.fresh_to rfl [.int .u64 N, .int .i64 K, .bool cnt, .bool true] _ _).cells (by intro u hu; simp at hu; rcases hu with rfl | rfl | rfl | rfl <;> rfl) (by unfold maxLen; omega) (by omega) (Nat.zero_le _) ?_); intro A1 c1 w1 ho1 hg1 hat1; obtain ⟨d0, d1, hfin⟩ := HE.out _ A1 c1 1 rfl w1 ho1 hg1 hat1; replace hfin := Lib.hid hfin; clear ho1 hg1 hat1)
    go_ret
    exact hfin.out
  · have hlen : P.length = P'.length + 1 := by rw [hP]; simp
    have hx : P[P'.length]'(by omega) = x := by subst hP; simp
    obtain ⟨g, rfl, _, _, hc1, hc2, g0, g1, _, _⟩ := h.elt (k := P'.length) (by omega)
    rw [hx] at g0 g1
    have hl := plast_snoc P' x
    rw [← hP] at hl
    have hb : x.num < num ∧ x.tick ≤ tick := by
      unfold rsentok at ho
      have he : P.isEmpty = false := by rw [hP]; simp
      rw [hl, he] at ho
      simp at ho
      omega
    obtain ⟨k, hk⟩ : ∃ k, P'.length = k := ⟨_, rfl⟩
    obtain ⟨m, hm⟩ : ∃ m, P.length = m := ⟨_, rfl⟩
    have hmk : (m : Int) - 1 = k := by omega
    have hkm : k < m := by omega
    rw [hm] at c0 HE hrow hs hc1
    rw [hk] at g0 g1
    obtain ⟨L, hL⟩ : ∃ L : Int, (x.num : Int) = L := ⟨_, rfl⟩
    obtain ⟨T, hT⟩ : ∃ T : Int, (x.tick : Int) = T := ⟨_, rfl⟩
    rw [hL] at g0
    rw [hT] at g1
    have b1 : L < N := by omega
    have b2 : T ≤ K := by omega
    replace hm := Lib.hid hm
    replace hP := Lib.hid hP
    replace hlen := Lib.hid hlen
    have hz : (0 : Int) ≤ k := by omega
    clear h hN hK ho h1 hcs hsz ht hx hl hb hk hL hT
    go_enter Try.func17, Try.ntmps17
    go_wp2_with (at_builtin; (refine wpList_appS rfl _ _ 44 rfl 0 68 _ 4 24 infoR Try.underlying44 rfl (by decide) (.slice (some ⟨g, 0, none⟩) m c) m (rv Pr.cells P) rfl (hrow.out.alloc _) _ 1 _ [.int .u64 N, .int .i64 K, .bool cnt, .bool true] rfl rfl (Rd.fresh_to rfl [.int .u64 N, .int .i64 K, .bool cnt, .bool true] _ _).cells (by intro u hu; simp at hu; rcases hu with rfl | rfl | rfl | rfl <;> rfl) (by unfold maxLen; omega) (by omega) (Nat.zero_le _) ?_); intro A1 c1 w1 ho1 hg1 hat1; obtain ⟨d0, d1, hfin⟩ := HE.out _ A1 c1 (m + 1) rfl w1 ho1 hg1 hat1; replace hfin := Lib.hid hfin; clear ho1 hg1 hat1)
    go_ret
    exact hfin.out
end
end Go.Proofs.Ytifigmhecgbfoaa
