/- flight: Sent. -/
import Derived.Test.YtifigmhecgbfoaaFlA
namespace Go.Proofs.Ytifigmhecgbfoaa
open Go.RowKit

/-- The blocks of a Flight. -/
def OnFl (p : Nat) (A : Option Addr) (k : Nat) : Prop := k = p ∨ ∃ a, A = some a ∧ a.block = k
/-- What follows on a Flight's row: the same block, or a new one. -/
def Next (w : World) (A A' : Option Addr) : Prop := ∀ a, A' = some a → (∃ b, A = some b ∧ b.block = a.block) ∨ w.heap.size ≤ a.block
theorem Next.refl (w : World) (A : Option Addr) : Next w A A := fun a h => .inl ⟨a, h, rfl⟩
theorem Next.far {w : World} {p : Nat} {A A' : Option Addr} (h : Next w A A') {k : Nat} (hk : k < w.heap.size) (hn : ¬ OnFl p A k) : ¬ OnFl p A' k := by
  rintro (h1 | ⟨a, ha, hb⟩)
  · exact hn (.inl h1)
  · rcases h a ha with ⟨b, hb1, hb2⟩ | h2
    · exact hn (.inr ⟨b, hb1, hb2.trans hb⟩)
    · omega

def fsentok (f : Fl) (num : Nat) (tick : Int) : Bool := decide (num ≤ 4611686018427387903) && decide ((f.tick : Int) ≤ tick) && !(f.any && decide (num ≤ f.last))
def fsent (f : Fl) (num tick : Nat) (cnt : Bool) : Fl := ⟨f.l ++ [⟨num, tick, cnt⟩], true, f.came, num, tick, f.largest⟩

section
variable {w w' : World} {p : Nat} {A : Option Addr} {c : Nat} {f : Fl}

set_option maxHeartbeats 2000000 in
theorem sent_no (h : IsFl w p A c f) (num : Nat) (tick : Int) (cnt : Bool) (hn : num < 18446744073709551616) (ho : fsentok f num tick = false) :
    Calls Try.prog 10 #[.pointer (some ⟨p, 0, none⟩), .int .u64 num, .int .i64 tick, .bool cnt] w fun e w' => e = .returned (.bool false) ∧ w = w' := by
  have c1 := wrote_cell h.cell 1 _ rfl
  have c3 := wrote_cell h.cell 3 _ rfl
  have c4 := wrote_cell h.cell 4 _ rfl
  obtain ⟨T, hT⟩ : ∃ T : Int, (f.tick : Int) = T := ⟨_, rfl⟩
  obtain ⟨L, hL⟩ : ∃ L : Int, (f.last : Int) = L := ⟨_, rfl⟩
  obtain ⟨N, hN⟩ : ∃ N : Int, (num : Int) = N := ⟨_, rfl⟩
  obtain ⟨B, hB⟩ : ∃ B, f.any = B := ⟨_, rfl⟩
  have ho2 : N > 4611686018427387903 ∨ (N ≤ 4611686018427387903 ∧ tick < T) ∨ (N ≤ 4611686018427387903 ∧ T ≤ tick ∧ B = true ∧ N ≤ L) := by
    unfold fsentok at ho
    rw [hB, hT] at ho
    rcases Nat.lt_or_ge 4611686018427387903 num with h1 | h1
    · exact .inl (by omega)
    · rcases Int.lt_or_le tick T with h2 | h2
      · exact .inr (.inl ⟨by omega, h2⟩)
      · rw [decide_eq_true h1, decide_eq_true h2] at ho
        cases B
        · simp at ho
        · refine .inr (.inr ⟨by omega, h2, rfl, ?_⟩)
          simp at ho
          omega
  rw [hT] at c4
  rw [hL] at c3
  rw [hB] at c1
  rw [hN]
  clear h ho hT hL hN hB
  rcases ho2 with h1 | ⟨h1, h2⟩ | ⟨h1, h2, h3, h4⟩
  · go_enter Try.func10, Try.ntmps10
    go_wp2
    all_goals (go_ret; exact ⟨rfl, rfl⟩)
  · go_enter Try.func10, Try.ntmps10
    go_wp2
    all_goals (go_ret; exact ⟨rfl, rfl⟩)
  · subst h3
    go_enter Try.func10, Try.ntmps10
    go_wp2
    all_goals (go_ret; exact ⟨rfl, rfl⟩)

set_option maxHeartbeats 4000000 in
theorem sent_yes (h : IsFl w p A c f) (num tick : Nat) (cnt : Bool) (hs : f.l.length < 100000) (ht : tick ≤ 9223372036854775807) (ho : fsentok f num tick = true) :
    Calls Try.prog 10 #[.pointer (some ⟨p, 0, none⟩), .int .u64 num, .int .i64 tick, .bool cnt] w fun e w' => e = .returned (.bool true) ∧
      ∃ A' c', IsFl w' p A' c' (fsent f num tick cnt) ∧ Fr (OnFl p A) w w' ∧ Next w A A' := by
  have c0 := wrote_cell h.cell 0 _ rfl
  have c1 := wrote_cell h.cell 1 _ rfl
  have c3 := wrote_cell h.cell 3 _ rfl
  have c4 := wrote_cell h.cell 4 _ rfl
  have f0 := frozen_of_row w p 0 _ _ h.cell
  have f1 := frozen_of_row w p 1 _ _ h.cell
  have f3 := frozen_of_row w p 3 _ _ h.cell
  have f4 := frozen_of_row w p 4 _ _ h.cell
  have H := Lib.hid h
  obtain ⟨T, hT⟩ : ∃ T : Int, (f.tick : Int) = T := ⟨_, rfl⟩
  obtain ⟨L, hL⟩ : ∃ L : Int, (f.last : Int) = L := ⟨_, rfl⟩
  obtain ⟨N, hN⟩ : ∃ N : Int, (num : Int) = N := ⟨_, rfl⟩
  obtain ⟨K, hK⟩ : ∃ K : Int, (tick : Int) = K := ⟨_, rfl⟩
  obtain ⟨B, hB⟩ : ∃ B, f.any = B := ⟨_, rfl⟩
  have h1 : N ≤ 4611686018427387903 := by unfold fsentok at ho; simp at ho; omega
  have h2 : T ≤ K := by unfold fsentok at ho; simp at ho; omega
  have h3 : B = false ∨ (B = true ∧ L < N) := by
    unfold fsentok at ho
    rw [hB] at ho
    cases B
    · exact .inl rfl
    · simp at ho; exact .inr ⟨rfl, by omega⟩
  rw [hT] at c4
  rw [hL] at c3
  rw [hB] at c1
  rw [hN, hK]
  have b1 : decide (4611686018427387903 < N) = false := decide_eq_false (by omega)
  have b2 : decide (K < T) = false := decide_eq_false (by omega)
  obtain ⟨W, hW⟩ : ∃ W, ((w.setCell ⟨p, 1, none⟩ (.bool true)).setCell ⟨p, 3, none⟩ (.int .u64 N)).setCell ⟨p, 4, none⟩ (.int .i64 K) = W := ⟨_, rfl⟩
  have HW : W.heap[p]? = some (.cells #[.slice A f.l.length c, .bool true, .bool f.came, .int .u64 N, .int .i64 K, .int .u64 f.largest] 60 (0, 0)) := by
    rw [← hW]
    exact heap_setCell_same _ p 4 _ _ _ (heap_setCell_same _ p 3 _ _ _ (heap_setCell_same w p 1 _ _ _ h.cell))
  have FW : Fr (fun k => k = p) w W := by
    rw [← hW]
    exact (((Fr.refl (fun k => k = p) w).setCell (p := ⟨p, 1, none⟩) (fun _ => rfl) _).setCell (p := ⟨p, 3, none⟩) (fun _ => rfl) _).setCell (p := ⟨p, 4, none⟩) (fun _ => rfl) _
  have hWs : Hid (W.heap.size = w.heap.size) := Lib.hid (by rw [← hW]; simp [World.setCell])
  have hown : W.ownsRow 0 62 3 (.slice A f.l.length c) f.l.length (pkv f.l) := own_fr h.row FW (fun k hk => by
    cases A with
    | none => cases hk
    | some a => injection hk with hk; subst hk; exact h.ne a rfl)
  have hrest : Hid (∀ A' c' w1 mk, w1.ownsRow 0 62 3 (.slice A' (f.l.length + 1) c') (f.l.length + 1) (pkv f.l ++ [.int .u64 N, .int .i64 K, .bool cnt]) → (W.alloc (.cells #[.int .u64 N, .int .i64 K, .bool cnt] 62 mk)).grownBy w1 (Value.slice A f.l.length c).ownBlock →
      ((Value.slice A' (f.l.length + 1) c').ownBlock = (Value.slice A f.l.length c).ownBlock ∨ (Value.slice A' (f.l.length + 1) c').ownBlock = some (W.alloc (.cells #[.int .u64 N, .int .i64 K, .bool cnt] 62 mk)).heap.size) →
      w1.cell? ⟨p, 0, none⟩ = some (.slice A f.l.length c) ∧ w1.frozen? ⟨p, 0, none⟩ = false ∧
      ∃ A'' c'', IsFl (w1.setCell ⟨p, 0, none⟩ (.slice A' (f.l.length + 1) c')) p A'' c'' (fsent f num tick cnt) ∧ Fr (OnFl p A) w (w1.setCell ⟨p, 0, none⟩ (.slice A' (f.l.length + 1) c')) ∧ Next w A A'') := Lib.hid (by
    intro A' c' w1 mk ho1 hg hat
    have hpl : p < W.heap.size := heap_lt HW
    have hne : ∀ k, (Value.slice A f.l.length c).ownBlock = some k → k ≠ p := fun k hk => by
      cases A with
      | none => cases hk
      | some a => injection hk with hk; subst hk; exact h.ne a rfl
    have H1 : w1.heap[p]? = some (.cells #[.slice A f.l.length c, .bool true, .bool f.came, .int .u64 N, .int .i64 K, .int .u64 f.largest] 60 (0, 0)) := by
      rw [hg.block p (by simp; omega) (fun e => hne p e.symm rfl), heap_alloc_old _ _ hpl]; exact HW
    have HS := heap_setCell_same w1 p 0 _ _ (.slice A' (f.l.length + 1) c') H1
    have FG : Fr (OnFl p A) w w1 := ((FW.mono (fun k hk _ => Or.inl hk)).alloc _).grown hg (fun k hk _ => .inr (by
      cases A with
      | none => cases hk
      | some a => injection hk with hk; exact ⟨a, rfl, hk⟩))
    have FS : Fr (OnFl p A) w (w1.setCell ⟨p, 0, none⟩ (.slice A' (f.l.length + 1) c')) := FG.setCell (p := ⟨p, 0, none⟩) (fun _ => .inl rfl) _
    have hne' : ∀ k, (Value.slice A' (f.l.length + 1) c').ownBlock = some k → k ≠ p := fun k hk => by
      rcases hat with e | e
      · rw [e] at hk; exact hne k hk
      · rw [e] at hk; injection hk with hk; simp at hk; omega
    refine ⟨wrote_cell H1 0 _ rfl, frozen_of_row w1 p 0 _ _ H1, A', c', ⟨?_, ?_, ?_, ?_, ?_, ?_, ?_⟩, FS, ?_⟩
    · rw [HS]
      simp only [fsent, List.length_append, List.length_cons, List.length_nil, Nat.zero_add]
      rw [hN, hK]
      rfl
    · have := own_fr (w' := w1.setCell ⟨p, 0, none⟩ (.slice A' (f.l.length + 1) c')) ho1 ((Fr.refl (fun k => k = p) w1).setCell (p := ⟨p, 0, none⟩) (fun _ => rfl) _) (fun k hk => hne' k hk)
      simp only [fsent, List.length_append, List.length_cons, List.length_nil, Nat.zero_add, pkv_append]
      rw [show pkv [⟨num, tick, cnt⟩] = [.int .u64 N, .int .i64 K, .bool cnt] from by simp [pkv, Pk.cells, hN, hK]]
      exact this
    · simp [fsent]; omega
    · intro x hx
      simp only [fsent, List.mem_append, List.mem_singleton] at hx
      rcases hx with hx | rfl
      · exact h.oks x hx
      · exact ⟨by simp; omega, ht⟩
    · simp [fsent]; omega
    · exact h.lgst
    · exact ht
    · intro a ha
      have hk : (Value.slice A' (f.l.length + 1) c').ownBlock = some a.block := by rw [ha]; rfl
      rcases hat with e | e
      · rw [e] at hk
        cases A with
        | none => cases hk
        | some b => injection hk with hk; exact .inl ⟨b, rfl, hk⟩
      · rw [e] at hk; injection hk with hk
        refine .inr ?_
        have := FW.size
        simp at hk
        omega)
  have hsl : Hid (f.l.length < 100000) := Lib.hid hs
  replace hW := Lib.hid hW
  clear HW FW h ho hT hL hB hs ht
  replace hN := Lib.hid hN
  replace hK := Lib.hid hK
  rcases h3 with h3 | ⟨h3, h4⟩
  · subst h3
    go_enter Try.func10, Try.ntmps10
    go_wp2_with (at_builtin; rw [hW.out]; (refine wpList_appS rfl _ _ 58 rfl 0 62 _ 3 24 infoP Try.underlying58 rfl (by decide) (.slice A f.l.length c) f.l.length (pkv f.l) rfl (hown.alloc _) _ 1 _ [.int .u64 N, .int .i64 K, .bool cnt] rfl rfl (Rd.fresh_to hWs.out [.int .u64 N, .int .i64 K, .bool cnt] _ _).cells (by intro u hu; simp at hu; rcases hu with rfl | rfl | rfl <;> rfl) (by have := hsl.out; unfold maxLen; omega) (by have := hsl.out; omega) (Nat.zero_le _) ?_); intro A' c' w1 ho1 hg1 hat1; obtain ⟨d0, e0, A2, c2, I2, F2, N2⟩ := hrest.out A' c' w1 _ ho1 hg1 hat1; clear hrest ho1 hg1 hat1 hown hsl; replace I2 := Lib.hid I2; replace F2 := Lib.hid F2; replace N2 := Lib.hid N2)
    go_ret
    exact ⟨rfl, A2, c2, I2.out, F2.out, N2.out⟩
  · subst h3
    have b3 : decide (N ≤ L) = false := decide_eq_false (by omega)
    go_enter Try.func10, Try.ntmps10
    go_wp2_with (at_builtin; rw [hW.out]; (refine wpList_appS rfl _ _ 58 rfl 0 62 _ 3 24 infoP Try.underlying58 rfl (by decide) (.slice A f.l.length c) f.l.length (pkv f.l) rfl (hown.alloc _) _ 1 _ [.int .u64 N, .int .i64 K, .bool cnt] rfl rfl (Rd.fresh_to hWs.out [.int .u64 N, .int .i64 K, .bool cnt] _ _).cells (by intro u hu; simp at hu; rcases hu with rfl | rfl | rfl <;> rfl) (by have := hsl.out; unfold maxLen; omega) (by have := hsl.out; omega) (Nat.zero_le _) ?_); intro A' c' w1 ho1 hg1 hat1; obtain ⟨d0, e0, A2, c2, I2, F2, N2⟩ := hrest.out A' c' w1 _ ho1 hg1 hat1; clear hrest ho1 hg1 hat1 hown hsl; replace I2 := Lib.hid I2; replace F2 := Lib.hid F2; replace N2 := Lib.hid N2)
    go_ret
    exact ⟨rfl, A2, c2, I2.out, F2.out, N2.out⟩
end
end Go.Proofs.Ytifigmhecgbfoaa
