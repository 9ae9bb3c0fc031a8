/- The document's own In: what it holds; New, Readable, Highest, Whole, Ended, Read. -/
import Derived.Test.YtlaomllgjiochaaIncH
import Derived.Test.YtlaomllgjiochaaCut
namespace Go.Proofs.Ytlaomllgjiochaa
open Go.RowKit

/-- What ties the highest to the places and the end. -/
structure Inc.Tie (s : Inc) : Prop where
  hi : s.hi = max (s.got.length : Int) s.en
  en : 0 ≤ s.en → (s.got.length : Int) ≤ s.en
/-- Block p is the document's In that holds s. -/
structure IsRi (w : World) (p : Nat) (vB vI : Value) (s : Inc) : Prop where
  cell : w.heap[p]? = some (.cells #[.int .i64 s.most, vB, vI, .int .i64 s.en, .int .i64 s.rd] 52 (0, 0))
  data : w.ownsRow (p + 1) 5 1 vB s.got.length (bv (gb s.got))
  came : w.ownsRow (p + 1) 4 1 vI s.got.length (bo (gc s.got))
  apart : ∀ k, vB.ownBlock = some k → vI.ownBlock ≠ some k
  ok : s.Ok
theorem IsRi.fr {w w' : World} {p : Nat} {vB vI : Value} {s : Inc} {S : Nat → Prop} (h : IsRi w p vB vI s) (f : Fr S w w') (hS : ∀ k, IncS p vB vI k → ¬ S k) : IsRi w' p vB vI s :=
  ⟨heap_fr h.cell f (hS p (.inl rfl)), own_fr h.data f (fun k hk => hS k (.inr (.inl hk))), own_fr h.came f (fun k hk => hS k (.inr (.inr hk))), h.apart, h.ok⟩

/-- The number of trues at a list's head. -/
theorem twl_of (l : List Bool) (k : Nat) (h1 : ∀ j, j < k → l[j]? = some true) (hk : k ≤ l.length) (h2 : l[k]? ≠ some true) : (l.takeWhile id).length = k := by
  induction k generalizing l with
  | zero =>
    cases l with
    | nil => rfl
    | cons b l =>
      cases b with
      | true => exact absurd rfl h2
      | false => rfl
  | succ k ih =>
    cases l with
    | nil => simp at hk
    | cons b l =>
      have h0 := h1 0 (by omega)
      injection h0 with h0
      subst h0
      rw [List.takeWhile_cons_of_pos rfl, List.length_cons, ih l (fun j hj => h1 (j + 1) (by omega)) (by simpa using hk) (by simpa using h2)]

theorem Inc.Tie.new (m : Int) : (inew m).Tie := ⟨by simp [inew]; decide, by simp [inew]⟩
theorem IsRi.ge {w : World} {p : Nat} {vB vI : Value} {s : Inc} (h : IsRi w p vB vI s) {k : Nat} (hk : IncS p vB vI k) : p ≤ k ∧ k < w.heap.size := by
  rcases hk with rfl | hk | hk
  · exact ⟨Nat.le_refl _, heap_lt h.cell⟩
  · have := h.data.lt k hk; omega
  · have := h.came.lt k hk; omega
theorem IsRi.drewN {w : World} {p : Nat} {vB vI : Value} {s : Inc} (h : IsRi w p vB vI s) (k : Nat) : IsRi (w.drewN k) p vB vI s := h.fr ((Fr.refl NoS w).drewN k) (fun _ _ x => x)

set_option maxHeartbeats 1000000 in
theorem rinew_any (m : Int) (w : World) (h0 : 0 ≤ m) (h1 : m ≤ 1048576) :
    Calls Try.prog 15 #[.int .i64 m] w fun e w' => e = .returned (.pointer (some ⟨w.heap.size, 0, none⟩)) ∧ IsRi w' w.heap.size (.slice none 0 0) (.slice none 0 0) (inew m) ∧ Below w.heap.size w w' := by
  go_enter Try.func15, Try.ntmps15
  go_wp2
  go_ret
  refine ⟨rfl, ⟨?_, World.ownsRow_nil _ _ _ _, World.ownsRow_nil _ _ _ _, fun k hk => by simp [Value.ownBlock] at hk, ⟨h0, h1, by simp [inew], by simp [inew]; omega, by simp [inew], by simp [inew], h0, h0⟩⟩, Fr.below ((Fr.refl NoS w).alloc _)⟩
  rw [heap_alloc_new]
  rfl
theorem rinew_neg (m : Int) (w : World) (h : m < 0 ∨ 1048576 < m) :
    Calls Try.prog 15 #[.int .i64 m] w fun e w' => e = .returned (.pointer none) ∧ w = w' := by
  by_cases h0 : m < 0
  · go_enter Try.func15, Try.ntmps15
    go_wp2
    go_ret
    exact ⟨rfl, rfl⟩
  · have h1 : 1048576 < m := by omega
    go_enter Try.func15, Try.ntmps15
    go_wp2
    go_ret
    exact ⟨rfl, rfl⟩

set_option maxRecDepth 100000 in
set_option maxHeartbeats 2000000 in
theorem rreadable_any (p : Nat) (vB vI : Value) (s : Inc) (w : World) (h : IsRi w p vB vI s) :
    Calls Try.prog 20 #[.pointer (some ⟨p, 0, none⟩)] w fun e w' => e = .returned (.int .i64 (irdb s)) ∧ ∃ k, w' = w.drewN k := by
  obtain ⟨A, c, rfl, h1, h2⟩ := own_shape _ h.came
  have c2 := wrote_cell h.cell 2 _ rfl
  have c4 := wrote_cell h.cell 4 _ rfl
  have hr := Lib.hid (Rd.of_own h.came)
  have hrd := h.ok.rd
  have hm := h.ok.len
  have hm1 := h.ok.most1
  obtain ⟨n, hn⟩ : ∃ n, s.got.length = n := ⟨_, rfl⟩
  obtain ⟨r, hrr⟩ : ∃ r, s.rd = r := ⟨_, rfl⟩
  obtain ⟨l, hl⟩ : ∃ l, gc s.got = l := ⟨_, rfl⟩
  have hll : Hid (l.length = n) := Lib.hid (by rw [← hl, ← hn]; simp [gc])
  have HQ : Hid (∀ k, (∀ j, j < k → l[r + j]? = some true) → r + k ≤ n → l[r + k]? ≠ some true → irdb s = k) := Lib.hid (fun k a b d => by
    rw [irdb, hl, hrr]
    exact twl_of _ _ (fun j hj => by rw [List.getElem?_drop]; exact a j hj) (by rw [List.length_drop, hll.out]; omega) (by rw [List.getElem?_drop]; exact d))
  rw [hn] at c2 hrd hm
  rw [hrr] at c4 hrd
  rw [hl] at hr
  have hm2 : n ≤ 1048576 := by omega
  obtain ⟨q, hq⟩ : ∃ q, irdb s = q := ⟨_, rfl⟩
  rw [hq] at HQ ⊢
  clear hl hn hrr hq h h1 h2 hm hm1
  go_enter Try.func20, Try.ntmps20
  go_wp2_with fail
  go_loopw [3] (fun i wr => ∃ k m : Nat, r + k ≤ n ∧ i = .int .i64 k ∧ wr = w.drewN m ∧ Hid (∀ j, j < k → l[r + j]? = some true)) (fun i _ => n - (intOf i).toNat)
  case atStart => exact ⟨0, 0, by omega, rfl, rfl, Lib.hid (fun j hj => by omega)⟩
  case round =>
    obtain ⟨k, m, hk, rfl, rfl, HK⟩ := hrel
    by_cases hkn : r + k < n
    · obtain ⟨b, o, rfl, g1⟩ := hr.out.at_ (k := r + k) (by rw [bo_length, hll.out]; exact hkn)
      have hd : decide ((r : Int) + k < n) = true := decide_eq_true (by omega)
      have hkl : r + k < l.length := by rw [hll.out]; exact hkn
      simp only [bo, List.getElem_map] at g1
      obtain ⟨v, hv⟩ : ∃ v, l[r + k] = v := ⟨_, rfl⟩
      have hvk : Hid (l[r + k]? = some v) := Lib.hid (by rw [List.getElem?_eq_getElem hkl, hv])
      rw [hv] at g1
      clear hv hkl
      cases v with
      | true =>
        rename_i aa; clear aa
        have HK2 : Hid (∀ j, j < k + 1 → l[r + j]? = some true) := Lib.hid (fun j hj => by
          by_cases e : j = k
          · subst e; exact hvk.out
          · exact HK.out j (by omega))
        clear HK
        go_wp2_with fail
        go_big_quiet (fail)
        go_wp2_with fail
        go_roundw
        case rel => exact ⟨k + 1, _, by omega, by go_num, rfl, HK2⟩
        case measure => simp [intOf]; omega
      | false =>
        have HR : Hid (q = k) := Lib.hid (HQ.out k HK.out (by omega) (by rw [hvk.out]; simp))
        go_wp2_with fail
        go_big_quiet (fail)
        go_wp2_with fail
        go_ret
        exact ⟨by rw [HR.out]; rfl, _, by rw [World.drewN_drewN]⟩
    · have hd : decide ((r : Int) + k < n) = false := decide_eq_false (by omega)
      have HR : Hid (q = k) := Lib.hid (HQ.out k HK.out (by omega) (by rw [List.getElem?_eq_none (by rw [hll.out]; omega)]; simp))
      go_wp2_with fail
      go_big_quiet (fail)
      go_wp2_with fail
      go_ret
      exact ⟨by rw [HR.out]; rfl, _, by rw [World.drewN_drewN]⟩

set_option maxHeartbeats 1000000 in
theorem rhigh_any (p : Nat) (vB vI : Value) (s : Inc) (w : World) (h : IsRi w p vB vI s) (tie : s.Tie) :
    Calls Try.prog 22 #[.pointer (some ⟨p, 0, none⟩)] w fun e w' => e = .returned (.int .i64 s.hi) ∧ ∃ k, w' = w.drewN k := by
  have c1 := wrote_cell h.cell 1 _ rfl
  have c3 := wrote_cell h.cell 3 _ rfl
  obtain ⟨A, c, rfl, hle, hm⟩ := own_shape w h.data
  have HM := fun ts t w => run_max2 (P := Try.prog) s.got.length s.en s.hi tie.hi ts t w
  obtain ⟨y, hy⟩ : ∃ e, s.hi = e := ⟨_, rfl⟩
  obtain ⟨e, he⟩ : ∃ e, s.en = e := ⟨_, rfl⟩
  obtain ⟨n, hn⟩ : ∃ e, s.got.length = e := ⟨_, rfl⟩
  rw [he] at c3
  rw [hn] at c1
  rw [hy, he, hn] at HM
  rw [hy]
  clear h hy he hn hle hm tie
  go_enter Try.func22, Try.ntmps22
  go_wp2_with fail
  go_big_quiet (fail)
  go_wp2_with fail
  go_ret
  exact ⟨rfl, _, rfl⟩

set_option maxHeartbeats 1000000 in
theorem rwhole_any (p : Nat) (vB vI : Value) (s : Inc) (w : World) (h : IsRi w p vB vI s) :
    Calls Try.prog 24 #[.pointer (some ⟨p, 0, none⟩)] w fun e w' => e = .returned (.bool (iwhole s)) ∧ ∃ k, w' = w.drewN k := by
  have c1 := wrote_cell h.cell 3 _ rfl
  have c2 := wrote_cell h.cell 4 _ rfl
  have CR := Lib.hid (fun k => rreadable_any p vB vI s _ (h.drewN k))
  have hle := irdb_le s h.ok
  have hk := h.ok
  have hl := hk.len
  have hm := hk.most1
  have hn0 := hk.en0
  have hn1 := hk.en1
  obtain ⟨e, he⟩ : ∃ e, s.en = e := ⟨_, rfl⟩
  obtain ⟨r, hr⟩ : ∃ e, s.rd = e := ⟨_, rfl⟩
  obtain ⟨q, hq⟩ : ∃ e, irdb s = e := ⟨_, rfl⟩
  have hI : iwhole s = (decide (0 ≤ e) && decide ((r : Int) + q = e)) := by unfold iwhole; rw [he, hr, hq]
  rw [hI]
  rw [he] at c1 hn0 hn1
  rw [hr] at c2 hle
  rw [hq] at CR hle
  clear hI he hr hq hk
  by_cases h0 : 0 ≤ e
  · have hd : decide (0 ≤ e) = true := decide_eq_true h0
    obtain ⟨t, ht⟩ : ∃ t, ((r : Int) + q == e) = t := ⟨_, rfl⟩
    have ht' : decide ((r : Int) + q = e) = t := by rw [← ht]; rfl
    rw [hd, ht', Bool.true_and]
    clear ht'
    go_enter Try.func24, Try.ntmps24
    go_wp2_with fail
    go_quiet ((go_at_call 20; first | exact Calls.quiet_of (CR.out _) | exact quiet_add (CR.out _)))
    go_wp2_with fail
    go_ret
    exact ⟨rfl, _, rfl⟩
  · have hd : decide (0 ≤ e) = false := decide_eq_false h0
    rw [hd, Bool.false_and]
    go_enter Try.func24, Try.ntmps24
    go_wp2_with fail
    go_big_quiet (fail)
    go_wp2_with fail
    go_ret
    exact ⟨rfl, _, rfl⟩

theorem iended_tie (s : Inc) (h : s.Ok) (k : s.Tie) : iended s = (decide (0 ≤ s.en) && decide ((s.rd : Int) = s.en)) := by
  have hle := irdb_le s h
  have hen := k.en
  rw [Bool.eq_iff_iff]
  simp only [iended, iwhole, Bool.and_eq_true, decide_eq_true_eq]
  constructor
  · rintro ⟨⟨a, b⟩, c⟩; exact ⟨a, c⟩
  · rintro ⟨a, c⟩; have := hen a; exact ⟨⟨a, by omega⟩, c⟩
set_option maxHeartbeats 1000000 in
theorem rended_any (p : Nat) (vB vI : Value) (s : Inc) (w : World) (h : IsRi w p vB vI s) (tie : s.Tie) :
    Calls Try.prog 25 #[.pointer (some ⟨p, 0, none⟩)] w fun e w' => e = .returned (.bool (iended s)) ∧ ∃ k, w' = w.drewN k := by
  have c1 := wrote_cell h.cell 3 _ rfl
  have c2 := wrote_cell h.cell 4 _ rfl
  rw [iended_tie s h.ok tie]
  obtain ⟨e, he⟩ : ∃ e, s.en = e := ⟨_, rfl⟩
  obtain ⟨r, hr⟩ : ∃ e, s.rd = e := ⟨_, rfl⟩
  rw [he] at c1
  rw [hr] at c2
  rw [he, hr]
  clear he hr h tie
  obtain ⟨t, ht⟩ : ∃ t, ((r : Int) == e) = t := ⟨_, rfl⟩
  have ht' : decide ((r : Int) = e) = t := by rw [← ht]; rfl
  by_cases h0 : 0 ≤ e
  · have hd : decide (0 ≤ e) = true := decide_eq_true h0
    rw [hd, ht', Bool.true_and]
    clear ht'
    go_enter Try.func25, Try.ntmps25
    go_wp2_with fail
    go_big_quiet (fail)
    go_wp2_with fail
    go_ret
    exact ⟨rfl, _, rfl⟩
  · have hd : decide (0 ≤ e) = false := decide_eq_false h0
    rw [hd, Bool.false_and]
    clear ht'
    go_enter Try.func25, Try.ntmps25
    go_wp2_with fail
    go_big_quiet (fail)
    go_wp2_with fail
    go_ret
    exact ⟨rfl, _, rfl⟩

theorem iread_tie (s : Inc) (x : Int) (k : s.Tie) : (iread s x).Tie := ⟨k.hi, k.en⟩
theorem IsRi.turn {w w' : World} {p : Nat} {vB vI : Value} {s s' : Inc} (h : IsRi w p vB vI s) (f : Fr (· = p) w w') (hg : s'.got = s.got)
    (hc : w'.heap[p]? = some (.cells #[.int .i64 s'.most, vB, vI, .int .i64 s'.en, .int .i64 s'.rd] 52 (0, 0))) (ho : s'.Ok) : IsRi w' p vB vI s' :=
  ⟨hc, by rw [hg]; exact own_fr h.data f (fun k hk => by have := h.data.lt k hk; omega), by rw [hg]; exact own_fr h.came f (fun k hk => by have := h.came.lt k hk; omega), h.apart, ho⟩

set_option maxRecDepth 100000 in
set_option maxHeartbeats 4000000 in
theorem rread_any (p : Nat) (vB vI : Value) (s : Inc) (x : Int) (w : World) (h : IsRi w p vB vI s) :
    Calls Try.prog 26 #[.pointer (some ⟨p, 0, none⟩), .int .i64 x] w fun e w' =>
      ∃ A c', e = .returned (.slice A (ireadn s x) c') ∧ w'.ownsRow w.heap.size 5 1 (.slice A (ireadn s x) c') (ireadn s x) (bv (ibytes s (ireadn s x))) ∧
        IsRi w' p vB vI (iread s x) ∧ Fr (· = p) w w' := by
  have CR := Lib.hid (rreadable_any p vB vI s w h)
  have hle := irdb_le s h.ok
  have hx := ireadn_le s x
  have hT := Lib.hid (fun w' a b d => h.turn (w' := w') (s' := iread s x) a b d (iread_ok s x h.ok))
  obtain ⟨A, c, rfl, hlc, hm⟩ := own_shape w h.data
  unfold maxLen at hm
  have hb := h.cell
  have hn1 := h.ok.len
  have hn2 := h.ok.most1
  have hR := Lib.hid (Rd.of_own h.data)
  have hap : Hid (∀ a, A = some a → a.block ≠ p) := Lib.hid (fun a ha e => by
    rcases own_cases h.data with ⟨rfl, _⟩ | ⟨g, hg, hge, _⟩
    · cases ha
    · rw [hg] at ha; injection ha with ha; subst ha; simp at e; omega)
  have hlen : Hid ((gb s.got).length = s.got.length) := Lib.hid (gb_length _)
  obtain ⟨y, hy⟩ : ∃ y : Int, y = max x 0 := ⟨_, rfl⟩
  have HM := fun ts t w => run_max2 (P := Try.prog) x 0 y hy ts t w
  have hmn : (ireadn s x : Int) = min y (irdb s) := by unfold ireadn; omega
  have HN := fun ts t w => run_min2 (P := Try.prog) y (irdb s) (ireadn s x) hmn ts t w
  have hib : ibytes s (ireadn s x) = ((gb s.got).drop s.rd).take (ireadn s x) := rfl
  have hird : Hid ((iread s x).rd = s.rd + ireadn s x) := Lib.hid rfl
  obtain ⟨q, hq⟩ : ∃ q, irdb s = q := ⟨_, rfl⟩
  obtain ⟨m, hmm⟩ : ∃ m, ireadn s x = m := ⟨_, rfl⟩
  obtain ⟨r, hr⟩ : ∃ e, s.rd = e := ⟨_, rfl⟩
  obtain ⟨n, hn⟩ : ∃ e, s.got.length = e := ⟨_, rfl⟩
  obtain ⟨l, hl⟩ : ∃ l, gb s.got = l := ⟨_, rfl⟩
  obtain ⟨s2, hs2⟩ : ∃ s2, iread s x = s2 := ⟨_, rfl⟩
  have hg : Hid (s2.got = s.got) := Lib.hid (by rw [← hs2]; rfl)
  have hg0 : Hid (s2.most = s.most ∧ s2.en = s.en) := Lib.hid (by rw [← hs2]; exact ⟨rfl, rfl⟩)
  rw [hs2] at hT hird ⊢
  rw [hq] at CR hle hx HN
  rw [hmm] at hx HN hird hib ⊢
  rw [hib]
  rw [hr] at hle hird hb ⊢
  rw [hn] at hle hlc hn1 hb hlen hT ⊢
  rw [hl] at hR hlen ⊢
  have f2 := fun k => frozen_of_row (w.drewN k) p 4 _ 52 hb
  have c2 := fun k => wrote_cell (w := w.drewN k) hb 4 _ rfl
  have HB := fun k => heap_setCell_same (w.drewN k) p 4 _ 52 (.int .i64 ((r : Int) + m)) hb
  simp only [List.setIfInBounds_toArray, List.set_cons_succ, List.set_cons_zero] at HB
  replace HB := Lib.hid HB
  have hsub : (r : Int) + m - m = r := by omega
  have hn3 : n ≤ 1048576 := by omega
  obtain ⟨X, K, qX⟩ := cut_lhI (P := Try.prog) Try.underlying22 infoB A n c r (r + m) (r : Int) ((r : Int) + m) rfl (by omega) (by omega) (by omega)
  rw [Nat.add_sub_cancel_left] at K
  have HX : Hid (∀ W : World, Fr (· = p) w W → Rd W X (bv ((l.drop r).take m))) := Lib.hid (fun W f => by
    have := qX.bytes (hR.out.fr f (fun _ a ha => hap.out a ha)) (by rw [hlen.out]; omega) (by rw [hlen.out]; omega)
    rwa [Nat.add_sub_cancel_left] at this)
  have hXl : Hid (((l.drop r).take m).length = m) := Lib.hid (by rw [List.length_take, List.length_drop, hlen.out]; omega)
  clear hy hmn hib hq hmm hr hl hn hs2 h hR hap qX
  have hrm : r + m ≤ 1048576 := by omega
  go_enter Try.func26, Try.ntmps26
  go_wp2_with fail
  refine CR.out.mono ?_
  rintro e w' ⟨rfl, k, rfl⟩
  replace c2 := c2 k
  replace f2 := f2 k
  go_wp2_with fail
  have H2 := HB.out k
  have F2 := ((Fr.refl (· = p) w).drewN k).setCell (p := ⟨p, 4, none⟩) (fun _ => rfl) (.int .i64 ((r : Int) + m))
  obtain ⟨W2, hW2⟩ : ∃ W, (w.drewN k).setCell ⟨p, 4, none⟩ (.int .i64 ((r : Int) + m)) = W := ⟨_, rfl⟩
  rw [hW2] at H2 F2 ⊢
  have d2 : W2.drew.cell? ⟨p, 4, none⟩ = some (.int .i64 ((r : Int) + m)) := wrote_cell (w := W2) H2 4 _ rfl
  have d4 : W2.drew.cell? ⟨p, 1, none⟩ = some (.slice A n c) := wrote_cell (w := W2) H2 1 _ rfl
  have R2 := HX.out _ F2.drew
  replace R2 := Lib.hid R2
  have hsz := F2.size
  clear hW2 HB c2 f2 hb HX
  have hwr : IntKind.i64.wrap (r : Int) = r := by rw [IntKind.wrap_i64]; omega
  have hwm : IntKind.i64.wrap ((r : Int) + m) = (r : Int) + m := by rw [IntKind.wrap_i64]; omega
  go_still_tail 15, (by kernel_rfl)
  change wpList _ _ _ _ _ W2.drew
  refine wpList_app _ rfl _ _ 22 rfl W2.heap.size 5 (.int .u8 0) 1 infoB Try.underlying22 rfl (.slice none 0 0) 0 [] rfl (World.ownsRow_nil _ _ _ _) X m (c - r) (bv ((l.drop r).take m)) rfl (by simp [hXl.out]) R2.out (bv_one _) (by unfold maxLen; omega) (by omega) (Nat.le_refl _) ?_
  intro A' c' w5 hown hgrow hat
  go_wp2_with fail
  go_ret
  have F5 : Fr NoS W2.drew w5 := (Fr.refl NoS _).grown hgrow (fun j hj _ => by simp [Value.ownBlock] at hj)
  refine ⟨A', c', by simp, ?_, hT.out _ ?_ hg.out ?_, ?_⟩
  · have := own_base (base2 := w.heap.size) hown (fun j hj => by have := (hown.lt j hj).1; omega)
    simpa using this
  · exact F2.drew.trans (F5.mono (fun _ x => x.elim))
  · have := heap_fr (w := W2.drew) H2 F5 (fun x => x)
    rw [hg0.out.1, hg0.out.2, hird.out]
    simpa using this
  · exact F2.drew.trans (F5.mono (fun _ x => x.elim))
end Go.Proofs.Ytlaomllgjiochaa
