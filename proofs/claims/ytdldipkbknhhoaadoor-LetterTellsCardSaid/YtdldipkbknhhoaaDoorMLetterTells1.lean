/- What the proof of LetterTells stands on, part 1: 11 texts of ours, one behind the other. -/
import Derived.Test.YtdldipkbknhhoaaDoorMLetterTells0
/- fields: slices.Index, slices.IndexFunc over fields; Line. -/
namespace Go.Proofs.YtdldipkbknhhoaaDoor
open Go.RowKit

set_option maxRecDepth 100000 in
set_option maxHeartbeats 2000000 in
theorem idx_any (l : List Fd) (A : Option Addr) (c : Nat) (a b : ByteArray) (w : World) (hr : Rd w A (fdv l)) (hl : l.length ≤ 1000000) :
    Calls Tryd.prog 65 #[.slice A l.length c, .agg #[.string a, .string b]] w fun e w' => e = .returned (.int .i64 (fidx (fun x => decide (x = ⟨a, b⟩)) l)) ∧ Below w.heap.size w w' := by
  have hwB := (Below.refl _ w).alloc (Nat.le_refl _) (.cells #[.string a, .string b] 47)
  have hR := HasRow.new w 47 #[.string a, .string b]
  obtain ⟨W1, hW1⟩ : ∃ W1, w.alloc (.cells #[.string a, .string b] 47) = W1 := ⟨_, rfl⟩
  rw [hW1] at hwB hR
  have hr1 := hr.below hwB
  obtain ⟨g, hg⟩ : ∃ g, w.heap.size = g := ⟨_, rfl⟩
  replace hW1 := Lib.hid hW1
  replace hg := Lib.hid hg
  go_enter Tryd.func65, Tryd.ntmps65
  go_wp2
  rw [hW1.out, hg.out]
  rw [hg.out] at hR
  replace hwB := Lib.hid hwB
  clear hW1 hr
  have f0 := hR.cell 0 _ rfl
  have f1 := hR.cell 1 _ rfl
  go_loopw [5, 8] (fun _ i wr => ∃ k q : Nat, k ≤ l.length ∧ i = .int .i64 k ∧ wr = W1.drewN q ∧ Hid (∀ j, j < k → ∀ y, l[j]? = some y → decide (y = (⟨a, b⟩ : Fd)) = false)) (fun _ i _ => l.length - (intOf i).toNat)
  case atStart => exact ⟨0, 0, by omega, rfl, rfl, Lib.hid (fun j hj => absurd hj (by omega))⟩
  case round =>
    obtain ⟨k, q, hk, rfl, rfl, HT⟩ := hrel
    by_cases hkl : k < l.length
    · obtain ⟨bb, off, rfl, x0, x1⟩ := load_fd hr1 hkl
      obtain ⟨y, hy⟩ : ∃ y, l[k] = y := ⟨_, rfl⟩
      have hy' : Hid (l[k]? = some y) := Lib.hid (by rw [List.getElem?_eq_getElem hkl, hy])
      rw [hy] at x0 x1
      obtain ⟨fa, fb⟩ := y
      by_cases he : (⟨fa, fb⟩ : Fd) = ⟨a, b⟩
      · have hq := decide_eq_true he
        injection he with h1 h2
        subst h1 h2
        replace hq := Lib.hid hq
        clear hy
        go_wp2
        go_big_quiet (fail)
        go_wp2
        go_ret
        exact ⟨ret_int (fidx_hit _ l k _ hy'.out (decide_eq_true rfl) HT.out).symm, hwB.out.trans (((Still.drewN W1 q).trans (Still.drewN _ nq)).below.mono hwB.out.size)⟩
      · have hq := Lib.hid (decide_eq_false he)
        have hne : (a.toList == fa.toList) = false ∨ (a = fa ∧ (b.toList == fb.toList) = false) := by
          by_cases h1 : a = fa
          · exact .inr ⟨h1, ba_list_ne (fun e => he (by rw [h1, e]))⟩
          · exact .inl (ba_list_ne h1)
        clear hy he
        rcases hne with h1 | ⟨rfl, h1⟩
        all_goals
          go_wp2
          go_big_quiet (fail)
          go_wp2
          go_roundw
          case rel => exact ⟨k + 1, q + nq, by omega, by go_num, rfl, Lib.hid (fun j hj z hz => by
              rcases Nat.lt_or_ge j k with h | h
              · exact HT.out j h z hz
              · have : j = k := by omega
                subst this
                rw [hy'.out] at hz; injection hz with hz; rw [← hz]; exact hq.out)⟩
          case measure => simp [intOf]; omega
    · have hk' : k = l.length := by omega
      subst hk'
      go_wp2
      go_ret
      exact ⟨ret_int (fidx_miss _ l HT.out).symm, hwB.out.trans ((Still.drewN _ _).below.mono hwB.out.size)⟩

set_option maxHeartbeats 2000000 in
theorem idxf_any (l : List Fd) (A : Option Addr) (c : Nat) (g : Nat) (lb : Array Value) (q : Fd → Bool) (w : World) (eg : Ent g) (hr : Rd w A (fdv l)) (hl : l.length ≤ 1000000)
    (hq : ∀ W x, Below w.heap.size w W → x ∈ l → Calls Tryd.prog g (#[x.agg] ++ lb) W fun e w' => e = .returned (.bool (q x)) ∧ Below w.heap.size w w') :
    Calls Tryd.prog 63 #[.slice A l.length c, .func (.func g) #[] lb] w fun e w' => e = .returned (.int .i64 (fidx q l)) ∧ Below w.heap.size w w' := by
  have EG : ∀ (args : Array Value) (w : World), (callFunc g args).run Tryd.prog w = .ok (.enter g args) w := eg
  replace hq := Lib.hid hq
  go_enter Tryd.func63, Tryd.ntmps63
  go_wp2
  go_loopw [5, 8] (fun _ i wr => ∃ k : Nat, k ≤ l.length ∧ i = .int .i64 k ∧ Hid (∀ j, j < k → ∀ y, l[j]? = some y → q y = false) ∧ Hid (Below w.heap.size w wr)) (fun _ i _ => l.length - (intOf i).toNat)
  case atStart => exact ⟨0, by omega, rfl, Lib.hid (fun j hj => absurd hj (by omega)), Lib.hid (Below.refl _ w)⟩
  case round =>
    obtain ⟨k, hk, rfl, HT, HB⟩ := hrel
    by_cases hkl : k < l.length
    · obtain ⟨b, off, rfl, l0, l1⟩ := load_fd (hr.fr (Fr.of_below HB.out NoS) (fun _ _ _ x => x)) hkl
      have hcall := hq.out wr l[k] HB.out (List.getElem_mem hkl)
      obtain ⟨y, hy⟩ : ∃ y, l[k] = y := ⟨_, rfl⟩
      have hy' : Hid (l[k]? = some y) := Lib.hid (by rw [List.getElem?_eq_getElem hkl, hy])
      rw [hy] at l0 l1 hcall
      clear hy hr
      unfold Fd.agg at hcall
      cases hqy : q y
      · rw [hqy] at hcall
        go_wp2_with (go_at_fn g; refine hcall.mono ?_; rintro e w' ⟨rfl, hb'⟩)
        go_roundw
        case rel => exact ⟨k + 1, by omega, by go_num, Lib.hid (fun j hj z hz => by
            rcases Nat.lt_or_ge j k with h | h
            · exact HT.out j h z hz
            · have : j = k := by omega
              subst this
              rw [hy'.out] at hz; injection hz with hz; rw [← hz]; exact hqy), Lib.hid hb'⟩
        case measure => simp [intOf]; omega
      · rw [hqy] at hcall
        go_wp2_with (go_at_fn g; refine hcall.mono ?_; rintro e w' ⟨rfl, hb'⟩)
        go_ret
        exact ⟨ret_int (fidx_hit q l k y hy'.out hqy HT.out).symm, hb'⟩
    · have hk' : k = l.length := by omega
      subst hk'
      go_wp2
      go_ret
      exact ⟨ret_int (fidx_miss q l HT.out).symm, HB.out⟩
theorem ba_list_beq (u v : ByteArray) : (u.toList == v.toList) = decide (u = v) := by
  by_cases h : u = v
  · subst h; simp
  · rw [ba_list_ne h, decide_eq_false h]
theorem line1_any (x : Fd) (a b : ByteArray) (X : Nat) (w : World) (hX : HasRow w X 47 #[.string a, .string b]) :
    Calls Tryd.prog 68 (#[x.agg] ++ #[.pointer (some ⟨X, 0, none⟩)]) w fun e w' => e = .returned (.bool (decide (x.name = a))) ∧ Below w.heap.size w w' := by
  unfold Fd.agg
  show Calls Tryd.prog 68 #[.agg #[.string x.name, .string x.value], .pointer (some ⟨X, 0, none⟩)] w _
  have g1 : ∀ o, (w.alloc o).cell? ⟨X, 0, none⟩ = some (.string a) := fun o => Lib.cell?_alloc_some o (hX.cell 0 _ rfl)
  have hd := ba_list_beq x.name a
  go_enter Tryd.func68, Tryd.ntmps68
  go_wp2
  go_ret
  exact ⟨rfl, (Below.refl _ w).alloc (Nat.le_refl _) _⟩
theorem ent_line1 : Ent 68 := enters_of Tryd.func68 (by kernel_rfl) rfl
end Go.Proofs.YtdldipkbknhhoaaDoor

/- fields: Line. -/
namespace Go.Proofs.YtdldipkbknhhoaaDoor
open Go.RowKit

def fhead (a : ByteArray) : List UInt8 := match fixed.findIdx? (fun x => decide (x.name = a)) with | some k => pput 80 4 k | none => ptext 32 3 a.data.toList
def fline (f : Fd) : List UInt8 := match fixed.findIdx? (fun x => decide (x = f)) with | some k => pput 192 6 k | none => fhead f.name ++ ptext 0 7 f.value.data.toList
theorem fidx_some {α : Type} {q : α → Bool} {l : List α} {k : Nat} (h : l.findIdx? q = some k) : fidx q l = k ∧ k < l.length := by
  unfold fidx
  rw [h]
  obtain ⟨hk, _⟩ := List.findIdx?_eq_some_iff_getElem.1 h
  exact ⟨rfl, hk⟩
theorem fidx_none {α : Type} {q : α → Bool} {l : List α} (h : l.findIdx? q = none) : fidx q l = -1 := by
  unfold fidx; rw [h]
theorem retS_up {E : TypeId} {w w' w1 : World} {n : Nat} {xs : List Value} {e : Ending} (h : RetS E w1 n xs e w') (b : Below w.heap.size w w1) : RetS E w n xs e w' := by
  obtain ⟨A, c, rfl, ho, hb⟩ := h
  exact ⟨A, c, rfl, own_base ho (fun k hk => by have := (ho.lt k hk).1; have := b.size; omega), b.trans (hb.mono b.size)⟩
theorem ptext_len (f : Int) (b : Nat) (s : List UInt8) : (ptext f b s).length ≤ 11 + s.length := by
  unfold ptext
  have := pput_len (pclr f b) b s.length
  rw [List.length_append]; omega

set_option maxRecDepth 100000 in
set_option maxHeartbeats 4000000 in
theorem line_any (a b : ByteArray) (w : World) (ha : a.size ≤ 1000000) (hb : b.size ≤ 1000000) :
    Calls Tryd.prog 52 #[.agg #[.string a, .string b]] w (RetS 5 w (fline ⟨a, b⟩).length (bv (fline ⟨a, b⟩))) := by
  have hmf := mkfn
  have B1 := (Below.refl _ w).alloc (Nat.le_refl _) (.cells #[.string a, .string b] 47)
  have R1 := HasRow.new w 47 #[.string a, .string b]
  obtain ⟨W1, hW1⟩ : ∃ W1, w.alloc (.cells #[.string a, .string b] 47) = W1 := ⟨_, rfl⟩
  rw [hW1] at B1 R1
  obtain ⟨g, hg⟩ : ∃ g, w.heap.size = g := ⟨_, rfl⟩
  rw [hg] at R1
  replace hW1 := Lib.hid hW1
  replace hg := Lib.hid hg
  replace B1 := Lib.hid B1
  replace R1 := Lib.hid R1
  go_enter Tryd.func52, Tryd.ntmps52
  go_wp2_with fail
  rw [hW1.out, hg.out]
  refine (fixed_any W1).mono ?_
  rintro e w2 ⟨A, rfl, rd, b2⟩
  have B2 := Lib.hid (B1.out.trans (b2.mono B1.out.size))
  have R2 := Lib.hid (R1.out.below b2)
  replace rd := Lib.hid rd
  have x0 := R2.out.cell 0 _ rfl
  have x1 := R2.out.cell 1 _ rfl
  clear R1 B1 b2
  go_wp2_with fail
  refine (idx_any fixed A 16 a b w2 rd.out (by decide)).mono ?_
  rintro e w3 ⟨rfl, b3⟩
  have B3 := Lib.hid (B2.out.trans (b3.mono B2.out.size))
  have R3 := Lib.hid (R2.out.below b3)
  have rd3 := Lib.hid (rd.out.below b3)
  clear R2 B2 b3 rd x0 x1
  rcases hf : fixed.findIdx? (fun x => decide (x = (⟨a, b⟩ : Fd))) with _ | k
  · rw [fidx_none hf]
    have hl0 : Hid (fline ⟨a, b⟩ = fhead a ++ ptext 0 7 b.data.toList) := Lib.hid (by unfold fline; rw [hf])
    replace hf := Lib.hid hf
    have y0 := R3.out.cell 0 _ rfl
    go_wp2_with fail
    refine (ptext_any [] 32 3 a none 0 w3 (Rd.nil _ _) (by simp) (by omega) (by omega) (by omega) (by omega) (by omega)).mono ?_
    rintro e w4 ⟨A4, c4, rfl, o4, b4⟩
    have B4 := Lib.hid (B3.out.trans (b4.mono B3.out.size))
    have R4 := Lib.hid (R3.out.below b4)
    have rd4 := Lib.hid (rd3.out.below b4)
    have H4 := Lib.hid (Rd.of_own o4)
    clear R3 B3 rd3 y0 b4 o4
    go_wp2_with fail
    refine (idxf_any fixed A 16 _ _ (fun x => decide (x.name = a)) w4 ent_line1 rd4.out (by decide) (fun W x hW _ => (line1_any x a b g W (R4.out.below hW)).mono (fun e w' h => ⟨h.1, hW.trans (h.2.mono hW.size)⟩))).mono ?_
    rintro e w5 ⟨rfl, b5⟩
    have B5 := Lib.hid (B4.out.trans (b5.mono B4.out.size))
    have R5 := Lib.hid (R4.out.below b5)
    have H5 := Lib.hid (H4.out.below b5)
    clear R4 B4 b5 H4 rd4
    rcases hf2 : fixed.findIdx? (fun x => decide (x.name = a)) with _ | k
    · rw [fidx_none hf2]
      have hl : fhead a = ptext 32 3 a.data.toList := by unfold fhead; rw [hf2]
      rw [hl] at hl0
      have hpl := ptext_len 32 3 a.data.toList
      rw [data_length] at hpl
      replace hf2 := Lib.hid hf2
      clear hl
      simp only [List.nil_append] at H5 ⊢
      have z1 := R5.out.cell 1 _ rfl
      go_wp2_with fail
      refine (ptext_any (ptext 32 3 a.data.toList) 0 7 b A4 c4 w5 H5.out (by omega) (by omega) (by omega) (by omega) (by omega) (by omega)).mono ?_
      intro e w6 h6
      replace h6 := retS_up h6 B5.out
      obtain ⟨A6, c6, rfl, o6, b6⟩ := h6
      replace o6 := Lib.hid o6
      replace b6 := Lib.hid b6
      go_wp2_with fail
      go_ret
      exact ⟨A6, c6, by rw [hl0.out, List.length_append]; rfl, by rw [hl0.out]; exact o6.out, b6.out⟩
    · obtain ⟨h1, h2⟩ := fidx_some hf2
      rw [h1]
      have hl : fhead a = pput 80 4 k := by unfold fhead; rw [hf2]
      rw [hl] at hl0
      have hk16 : k < 16 := h2
      have hwk : IntKind.u64.wrap (k : Int) = (k : Int) := by rw [IntKind.wrap_u64]; omega
      replace hf2 := Lib.hid hf2
      clear hl h1 h2 H5
      go_wp2_with fail
      refine (pput_any [] 80 4 k none 0 w5 (Rd.nil _ _) (by simp) (by omega) (by omega) (by omega) (by omega) (by omega) (by omega)).mono ?_
      rintro e w6 ⟨A6, c6, rfl, o6, b6⟩
      have B6 := Lib.hid (B5.out.trans (b6.mono B5.out.size))
      have R6 := Lib.hid (R5.out.below b6)
      have H6 := Lib.hid (Rd.of_own o6)
      clear B5 R5 o6 b6 hwk
      simp only [List.nil_append] at H6 ⊢
      have hpl := pput_len 80 4 k
      have z1 := R6.out.cell 1 _ rfl
      go_wp2_with fail
      refine (ptext_any (pput 80 4 k) 0 7 b A6 c6 w6 H6.out (by omega) (by omega) (by omega) (by omega) (by omega) (by omega)).mono ?_
      intro e w7 h7
      replace h7 := retS_up h7 B6.out
      obtain ⟨A7, c7, rfl, o7, b7⟩ := h7
      replace o7 := Lib.hid o7
      replace b7 := Lib.hid b7
      go_wp2_with fail
      go_ret
      exact ⟨A7, c7, by rw [hl0.out, List.length_append]; rfl, by rw [hl0.out]; exact o7.out, b7.out⟩
  · obtain ⟨h1, h2⟩ := fidx_some hf
    rw [h1]
    have hl0 : Hid (fline ⟨a, b⟩ = pput 192 6 k) := Lib.hid (by unfold fline; rw [hf])
    have hk16 : k < 16 := h2
    have hwk : IntKind.u64.wrap (k : Int) = (k : Int) := by rw [IntKind.wrap_u64]; omega
    replace hf := Lib.hid hf
    clear h1 h2
    go_wp2_with fail
    refine (pput_any [] 192 6 k none 0 w3 (Rd.nil _ _) (by simp) (by omega) (by omega) (by omega) (by omega) (by omega) (by omega)).mono ?_
    intro e w4 h4
    replace h4 := retS_up h4 B3.out
    simp only [List.nil_append] at h4
    obtain ⟨A4, c4, rfl, o4, b4⟩ := h4
    replace o4 := Lib.hid o4
    replace b4 := Lib.hid b4
    go_wp2_with fail
    go_ret
    exact ⟨A4, c4, by rw [hl0.out]; rfl, by rw [hl0.out]; exact o4.out, b4.out⟩
end Go.Proofs.YtdldipkbknhhoaaDoor

/- fields: Name, plain: which texts may be. -/
namespace Go.Proofs.YtdldipkbknhhoaaDoor
open Go.RowKit

/-- A name's byte, at its place, of a name so long. -/
def nchar (n k : Nat) (c : Nat) : Bool := (decide (97 ≤ c) && decide (c ≤ 122)) || (decide (48 ≤ c) && decide (c ≤ 57)) || decide (c = 45) || (decide (c = 58) && decide (k = 0) && decide (n ≠ 1))
def nameok (s : ByteArray) : Bool := ((List.range s.size).all fun k => nchar s.size k (s.data.toList.getD k 0).toNat) && decide (1 ≤ s.size) && decide (s.size ≤ 60)
def vchar (c : Nat) : Bool := decide (32 ≤ c) && decide (c ≤ 126)
def valok (s : ByteArray) : Bool := (List.range s.size).all fun k => vchar (s.data.toList.getD k 0).toNat
theorem chr_at (s : ByteArray) (k : Nat) (h : k < s.size) : (s.data.toList.getD k 0).toNat = (s[k]'h).toNat := by
  have : s.data.toList.getD k 0 = s[k]'h := by
    rw [List.getD_eq_getElem?_getD, List.getElem?_eq_getElem (by rw [data_length]; exact h), Option.getD_some, Array.getElem_toList]; rfl
  rw [this]
theorem all_snoc (f : Nat → Bool) (n : Nat) : (List.range (n + 1)).all f = ((List.range n).all f && f n) := by rw [List.range_succ, List.all_append]; simp
theorem all_no (f : Nat → Bool) (n k : Nat) (hk : k < n) (h : f k = false) : (List.range n).all f = false := by
  rw [List.all_eq_false]
  exact ⟨k, List.mem_range.2 hk, by rw [h]; simp⟩

set_option maxRecDepth 100000 in
set_option maxHeartbeats 2000000 in
theorem plain_any (s : ByteArray) (w : World) (hs : s.size ≤ 1000000) :
    Calls Tryd.prog 51 #[.string s] w fun e w' => e = .returned (.bool (valok s)) ∧ w = w' := by
  obtain ⟨n, hn⟩ : ∃ n, s.size = n := ⟨_, rfl⟩
  go_enter Tryd.func51, Tryd.ntmps51
  go_wp2
  go_loopw [6] (fun i wr => ∃ k : Nat, k ≤ n ∧ i = .int .i64 k ∧ wr = w ∧ Hid ((List.range k).all (fun k => vchar (s.data.toList.getD k 0).toNat) = true)) (fun i _ => n - (intOf i).toNat)
  case atStart => exact ⟨0, by omega, rfl, rfl, Lib.hid rfl⟩
  case round =>
    obtain ⟨k, hk, rfl, rfl, HA⟩ := hrel
    by_cases hkn : k < n
    · have hks : k < s.size := by omega
      obtain ⟨c, hc⟩ : ∃ c, (s[k]'hks).toNat = c := ⟨_, rfl⟩
      have hcl : (s.data.toList.getD k 0).toNat = c := by rw [← hc]; exact chr_at s k hks
      have h3 : c < 32 ∨ (¬ c < 32 ∧ 126 < c) ∨ (¬ c < 32 ∧ ¬ 126 < c) := by omega
      rcases h3 with h | ⟨h, h2⟩ | ⟨h, h2⟩
      · have d1 : decide ((c : Int) < 32) = true := decide_eq_true (by omega)
        have hno := Lib.hid (all_no (fun k => vchar (s.data.toList.getD k 0).toNat) n k hkn (by simp only [hcl]; unfold vchar; rw [decide_eq_false (by omega)]; rfl))
        replace hcl := Lib.hid hcl
        clear h
        go_wp2
        go_ret
        refine ⟨ret_bool ?_, rfl⟩
        unfold valok; rw [hn]; exact hno.out.symm
      · have d1 : decide ((c : Int) < 32) = false := decide_eq_false (by omega)
        have d2 : decide (126 < (c : Int)) = true := decide_eq_true (by omega)
        have hno := Lib.hid (all_no (fun k => vchar (s.data.toList.getD k 0).toNat) n k hkn (by simp only [hcl]; unfold vchar; rw [decide_eq_false (show ¬ c ≤ 126 by omega), Bool.and_false]))
        replace hcl := Lib.hid hcl
        clear h h2
        go_wp2
        go_ret
        refine ⟨ret_bool ?_, rfl⟩
        unfold valok; rw [hn]; exact hno.out.symm
      · have d1 : decide ((c : Int) < 32) = false := decide_eq_false (by omega)
        have d2 : decide (126 < (c : Int)) = false := decide_eq_false (by omega)
        have hyes : Hid ((List.range (k + 1)).all (fun k => vchar (s.data.toList.getD k 0).toNat) = true) := Lib.hid (by
          rw [all_snoc, HA.out, hcl]
          unfold vchar
          rw [decide_eq_true (by omega), decide_eq_true (by omega)]; rfl)
        replace hcl := Lib.hid hcl
        clear h h2 HA
        go_wp2
        go_roundw
        case rel => exact ⟨k + 1, by omega, by go_num, by first | rfl | trivial, hyes⟩
        case measure => simp [intOf]; omega
    · have hk' : k = n := by omega
      have HB : Hid (valok s = true) := Lib.hid (by unfold valok; rw [hn, ← hk']; exact HA.out)
      clear HA
      go_wp2
      go_ret
      exact ⟨ret_bool HB.out.symm, rfl⟩

set_option maxRecDepth 100000 in
set_option maxHeartbeats 4000000 in
theorem name_any (s : ByteArray) (w : World) (hs : s.size ≤ 1000000) :
    Calls Tryd.prog 50 #[.string s] w fun e w' => e = .returned (.bool (nameok s)) ∧ w = w' := by
  obtain ⟨n, hn⟩ : ∃ n, s.size = n := ⟨_, rfl⟩
  go_enter Tryd.func50, Tryd.ntmps50
  go_wp2
  go_loopw [7] (fun i wr => ∃ k : Nat, k ≤ n ∧ i = .int .i64 k ∧ wr = w ∧ Hid ((List.range k).all (fun k => nchar n k (s.data.toList.getD k 0).toNat) = true)) (fun i _ => n - (intOf i).toNat)
  case atStart => exact ⟨0, by omega, rfl, rfl, Lib.hid rfl⟩
  case round =>
    obtain ⟨k, hk, rfl, rfl, HA⟩ := hrel
    by_cases hkn : k < n
    · have hks : k < s.size := by omega
      obtain ⟨c, hc⟩ : ∃ c, (s[k]'hks).toNat = c := ⟨_, rfl⟩
      have hcl : (s.data.toList.getD k 0).toNat = c := by rw [← hc]; exact chr_at s k hks
      have hcls : (c < 45) ∨ (c = 45) ∨ (45 < c ∧ c < 48) ∨ (48 ≤ c ∧ c ≤ 57) ∨ (c = 58 ∧ 0 < k) ∨ (c = 58 ∧ k = 0 ∧ n = 1) ∨ (c = 58 ∧ k = 0 ∧ n ≠ 1) ∨ (58 < c ∧ c < 97) ∨ (97 ≤ c ∧ c ≤ 122) ∨ (122 < c) := by omega
      rcases hcls with h | h | h | h | h | h | h | h | h | h
      · have d1 : decide ((c : Int) < 97) = true := decide_eq_true (by omega)
        have d2 : decide (122 < (c : Int)) = false := decide_eq_false (by omega)
        have d3 : decide ((c : Int) < 48) = true := decide_eq_true (by omega)
        have d4 : decide (57 < (c : Int)) = false := decide_eq_false (by omega)
        have d5 : ((c : Int) != 45) = true := by first | (rw [bne_iff_ne]; omega) | (rw [bne_eq_false_iff_eq]; omega)
        have d6 : ((c : Int) != 58) = true := by first | (rw [bne_iff_ne]; omega) | (rw [bne_eq_false_iff_eq]; omega)
        have hnc : nchar n k c = false := by unfold nchar; simp; omega
        have hno := Lib.hid (all_no (fun k => nchar n k (s.data.toList.getD k 0).toNat) n k hkn (by simp only [hcl]; exact hnc))
        replace hcl := Lib.hid hcl
        replace hnc := Lib.hid hnc
        clear h
        go_wp2
        go_ret
        refine ⟨ret_bool ?_, rfl⟩
        unfold nameok; rw [hn, hno.out]; rfl
      · have d1 : decide ((c : Int) < 97) = true := decide_eq_true (by omega)
        have d2 : decide (122 < (c : Int)) = false := decide_eq_false (by omega)
        have d3 : decide ((c : Int) < 48) = true := decide_eq_true (by omega)
        have d4 : decide (57 < (c : Int)) = false := decide_eq_false (by omega)
        have d5 : ((c : Int) != 45) = false := by first | (rw [bne_iff_ne]; omega) | (rw [bne_eq_false_iff_eq]; omega)
        have d6 : ((c : Int) != 58) = true := by first | (rw [bne_iff_ne]; omega) | (rw [bne_eq_false_iff_eq]; omega)
        have hnc : nchar n k c = true := by unfold nchar; simp; omega
        have hyes : Hid ((List.range (k + 1)).all (fun k => nchar n k (s.data.toList.getD k 0).toNat) = true) := Lib.hid (by rw [all_snoc, HA.out, hcl, hnc]; rfl)
        replace hcl := Lib.hid hcl
        replace hnc := Lib.hid hnc
        clear HA h
        go_wp2
        go_roundw
        case rel => exact ⟨k + 1, by omega, by go_num, by first | rfl | trivial, hyes⟩
        case measure => simp [intOf]; omega
      · have d1 : decide ((c : Int) < 97) = true := decide_eq_true (by omega)
        have d2 : decide (122 < (c : Int)) = false := decide_eq_false (by omega)
        have d3 : decide ((c : Int) < 48) = true := decide_eq_true (by omega)
        have d4 : decide (57 < (c : Int)) = false := decide_eq_false (by omega)
        have d5 : ((c : Int) != 45) = true := by first | (rw [bne_iff_ne]; omega) | (rw [bne_eq_false_iff_eq]; omega)
        have d6 : ((c : Int) != 58) = true := by first | (rw [bne_iff_ne]; omega) | (rw [bne_eq_false_iff_eq]; omega)
        have hnc : nchar n k c = false := by unfold nchar; simp; omega
        have hno := Lib.hid (all_no (fun k => nchar n k (s.data.toList.getD k 0).toNat) n k hkn (by simp only [hcl]; exact hnc))
        replace hcl := Lib.hid hcl
        replace hnc := Lib.hid hnc
        clear h
        go_wp2
        go_ret
        refine ⟨ret_bool ?_, rfl⟩
        unfold nameok; rw [hn, hno.out]; rfl
      · have d1 : decide ((c : Int) < 97) = true := decide_eq_true (by omega)
        have d2 : decide (122 < (c : Int)) = false := decide_eq_false (by omega)
        have d3 : decide ((c : Int) < 48) = false := decide_eq_false (by omega)
        have d4 : decide (57 < (c : Int)) = false := decide_eq_false (by omega)
        have d5 : ((c : Int) != 45) = true := by first | (rw [bne_iff_ne]; omega) | (rw [bne_eq_false_iff_eq]; omega)
        have d6 : ((c : Int) != 58) = true := by first | (rw [bne_iff_ne]; omega) | (rw [bne_eq_false_iff_eq]; omega)
        have hnc : nchar n k c = true := by unfold nchar; simp; omega
        have hyes : Hid ((List.range (k + 1)).all (fun k => nchar n k (s.data.toList.getD k 0).toNat) = true) := Lib.hid (by rw [all_snoc, HA.out, hcl, hnc]; rfl)
        replace hcl := Lib.hid hcl
        replace hnc := Lib.hid hnc
        clear HA h
        go_wp2
        go_roundw
        case rel => exact ⟨k + 1, by omega, by go_num, by first | rfl | trivial, hyes⟩
        case measure => simp [intOf]; omega
      · have d1 : decide ((c : Int) < 97) = true := decide_eq_true (by omega)
        have d2 : decide (122 < (c : Int)) = false := decide_eq_false (by omega)
        have d3 : decide ((c : Int) < 48) = false := decide_eq_false (by omega)
        have d4 : decide (57 < (c : Int)) = true := decide_eq_true (by omega)
        have d5 : ((c : Int) != 45) = true := by first | (rw [bne_iff_ne]; omega) | (rw [bne_eq_false_iff_eq]; omega)
        have d6 : ((c : Int) != 58) = false := by first | (rw [bne_iff_ne]; omega) | (rw [bne_eq_false_iff_eq]; omega)
        have d7 : decide (0 < k) = true := decide_eq_true (by omega)
        have d7' : decide ((0 : Int) < (k : Int)) = true := decide_eq_true (by omega)
        have hnc : nchar n k c = false := by unfold nchar; simp; omega
        have hno := Lib.hid (all_no (fun k => nchar n k (s.data.toList.getD k 0).toNat) n k hkn (by simp only [hcl]; exact hnc))
        replace hcl := Lib.hid hcl
        replace hnc := Lib.hid hnc
        clear h
        go_wp2
        go_ret
        refine ⟨ret_bool ?_, rfl⟩
        unfold nameok; rw [hn, hno.out]; rfl
      · have d1 : decide ((c : Int) < 97) = true := decide_eq_true (by omega)
        have d2 : decide (122 < (c : Int)) = false := decide_eq_false (by omega)
        have d3 : decide ((c : Int) < 48) = false := decide_eq_false (by omega)
        have d4 : decide (57 < (c : Int)) = true := decide_eq_true (by omega)
        have d5 : ((c : Int) != 45) = true := by first | (rw [bne_iff_ne]; omega) | (rw [bne_eq_false_iff_eq]; omega)
        have d6 : ((c : Int) != 58) = false := by first | (rw [bne_iff_ne]; omega) | (rw [bne_eq_false_iff_eq]; omega)
        have d7 : decide (0 < k) = false := decide_eq_false (by omega)
        have d7' : decide ((0 : Int) < (k : Int)) = false := decide_eq_false (by omega)
        have d8 : ((n : Int) == 1) = true := by first | (rw [beq_iff_eq]; omega) | (rw [beq_eq_false_iff_ne]; omega)
        have hnc : nchar n k c = false := by unfold nchar; simp; omega
        have hno := Lib.hid (all_no (fun k => nchar n k (s.data.toList.getD k 0).toNat) n k hkn (by simp only [hcl]; exact hnc))
        replace hcl := Lib.hid hcl
        replace hnc := Lib.hid hnc
        clear h
        go_wp2
        go_ret
        refine ⟨ret_bool ?_, rfl⟩
        unfold nameok; rw [hn, hno.out]; rfl
      · have d1 : decide ((c : Int) < 97) = true := decide_eq_true (by omega)
        have d2 : decide (122 < (c : Int)) = false := decide_eq_false (by omega)
        have d3 : decide ((c : Int) < 48) = false := decide_eq_false (by omega)
        have d4 : decide (57 < (c : Int)) = true := decide_eq_true (by omega)
        have d5 : ((c : Int) != 45) = true := by first | (rw [bne_iff_ne]; omega) | (rw [bne_eq_false_iff_eq]; omega)
        have d6 : ((c : Int) != 58) = false := by first | (rw [bne_iff_ne]; omega) | (rw [bne_eq_false_iff_eq]; omega)
        have d7 : decide (0 < k) = false := decide_eq_false (by omega)
        have d7' : decide ((0 : Int) < (k : Int)) = false := decide_eq_false (by omega)
        have d8 : ((n : Int) == 1) = false := by first | (rw [beq_iff_eq]; omega) | (rw [beq_eq_false_iff_ne]; omega)
        have hnc : nchar n k c = true := by unfold nchar; simp; omega
        have hyes : Hid ((List.range (k + 1)).all (fun k => nchar n k (s.data.toList.getD k 0).toNat) = true) := Lib.hid (by rw [all_snoc, HA.out, hcl, hnc]; rfl)
        replace hcl := Lib.hid hcl
        replace hnc := Lib.hid hnc
        clear HA h
        go_wp2
        go_roundw
        case rel => exact ⟨k + 1, by omega, by go_num, by first | rfl | trivial, hyes⟩
        case measure => simp [intOf]; omega
      · have d1 : decide ((c : Int) < 97) = true := decide_eq_true (by omega)
        have d2 : decide (122 < (c : Int)) = false := decide_eq_false (by omega)
        have d3 : decide ((c : Int) < 48) = false := decide_eq_false (by omega)
        have d4 : decide (57 < (c : Int)) = true := decide_eq_true (by omega)
        have d5 : ((c : Int) != 45) = true := by first | (rw [bne_iff_ne]; omega) | (rw [bne_eq_false_iff_eq]; omega)
        have d6 : ((c : Int) != 58) = true := by first | (rw [bne_iff_ne]; omega) | (rw [bne_eq_false_iff_eq]; omega)
        have hnc : nchar n k c = false := by unfold nchar; simp; omega
        have hno := Lib.hid (all_no (fun k => nchar n k (s.data.toList.getD k 0).toNat) n k hkn (by simp only [hcl]; exact hnc))
        replace hcl := Lib.hid hcl
        replace hnc := Lib.hid hnc
        clear h
        go_wp2
        go_ret
        refine ⟨ret_bool ?_, rfl⟩
        unfold nameok; rw [hn, hno.out]; rfl
      · have d1 : decide ((c : Int) < 97) = false := decide_eq_false (by omega)
        have d2 : decide (122 < (c : Int)) = false := decide_eq_false (by omega)
        have d3 : decide ((c : Int) < 48) = false := decide_eq_false (by omega)
        have d4 : decide (57 < (c : Int)) = true := decide_eq_true (by omega)
        have d5 : ((c : Int) != 45) = true := by first | (rw [bne_iff_ne]; omega) | (rw [bne_eq_false_iff_eq]; omega)
        have d6 : ((c : Int) != 58) = true := by first | (rw [bne_iff_ne]; omega) | (rw [bne_eq_false_iff_eq]; omega)
        have hnc : nchar n k c = true := by unfold nchar; simp; omega
        have hyes : Hid ((List.range (k + 1)).all (fun k => nchar n k (s.data.toList.getD k 0).toNat) = true) := Lib.hid (by rw [all_snoc, HA.out, hcl, hnc]; rfl)
        replace hcl := Lib.hid hcl
        replace hnc := Lib.hid hnc
        clear HA h
        go_wp2
        go_roundw
        case rel => exact ⟨k + 1, by omega, by go_num, by first | rfl | trivial, hyes⟩
        case measure => simp [intOf]; omega
      · have d1 : decide ((c : Int) < 97) = false := decide_eq_false (by omega)
        have d2 : decide (122 < (c : Int)) = true := decide_eq_true (by omega)
        have d3 : decide ((c : Int) < 48) = false := decide_eq_false (by omega)
        have d4 : decide (57 < (c : Int)) = true := decide_eq_true (by omega)
        have d5 : ((c : Int) != 45) = true := by first | (rw [bne_iff_ne]; omega) | (rw [bne_eq_false_iff_eq]; omega)
        have d6 : ((c : Int) != 58) = true := by first | (rw [bne_iff_ne]; omega) | (rw [bne_eq_false_iff_eq]; omega)
        have hnc : nchar n k c = false := by unfold nchar; simp; omega
        have hno := Lib.hid (all_no (fun k => nchar n k (s.data.toList.getD k 0).toNat) n k hkn (by simp only [hcl]; exact hnc))
        replace hcl := Lib.hid hcl
        replace hnc := Lib.hid hnc
        clear h
        go_wp2
        go_ret
        refine ⟨ret_bool ?_, rfl⟩
        unfold nameok; rw [hn, hno.out]; rfl
    · have hk' : k = n := by omega
      have HB : Hid (nameok s = (decide (1 ≤ n) && decide (n ≤ 60))) := Lib.hid (by
        have := HA.out
        rw [hk'] at this
        unfold nameok; rw [hn, this, Bool.true_and])
      clear HA
      have h3 : n = 0 ∨ (1 ≤ n ∧ n ≤ 60) ∨ 60 < n := by omega
      rcases h3 with h | ⟨h, h2⟩ | h
      · have d1 : decide (1 ≤ n) = false := decide_eq_false (by omega)
        have d1' : decide ((1 : Int) ≤ (n : Int)) = false := decide_eq_false (by omega)
        rw [d1, Bool.false_and] at HB
        replace h := Lib.hid h
        go_wp2
        go_ret
        exact ⟨ret_bool HB.out.symm, rfl⟩
      · have d1 : decide (1 ≤ n) = true := decide_eq_true (by omega)
        have d1' : decide ((1 : Int) ≤ (n : Int)) = true := decide_eq_true (by omega)
        have d2 : decide (n ≤ 60) = true := decide_eq_true (by omega)
        have d2' : decide ((n : Int) ≤ 60) = true := decide_eq_true (by omega)
        rw [d1, d2, Bool.true_and] at HB
        go_wp2
        go_ret
        exact ⟨ret_bool HB.out.symm, rfl⟩
      · have d1 : decide (1 ≤ n) = true := decide_eq_true (by omega)
        have d1' : decide ((1 : Int) ≤ (n : Int)) = true := decide_eq_true (by omega)
        have d2 : decide (n ≤ 60) = false := decide_eq_false (by omega)
        have d2' : decide ((n : Int) ≤ 60) = false := decide_eq_false (by omega)
        rw [d1, d2, Bool.true_and] at HB
        go_wp2
        go_ret
        exact ⟨ret_bool HB.out.symm, rfl⟩
end Go.Proofs.YtdldipkbknhhoaaDoor

/- fields: Put. -/
namespace Go.Proofs.YtdldipkbknhhoaaDoor
open Go.RowKit

set_option maxHeartbeats 2000000 in
theorem contf_any (l : List Fd) (A : Option Addr) (c : Nat) (g : Nat) (lb : Array Value) (q : Fd → Bool) (w : World) (eg : Ent g) (hr : Rd w A (fdv l)) (hl : l.length ≤ 1000000)
    (hq : ∀ W x, Below w.heap.size w W → x ∈ l → Calls Tryd.prog g (#[x.agg] ++ lb) W fun e w' => e = .returned (.bool (q x)) ∧ Below w.heap.size w w') :
    Calls Tryd.prog 48 #[.slice A l.length c, .func (.func g) #[] lb] w fun e w' => e = .returned (.bool (l.any q)) ∧ Below w.heap.size w w' := by
  have CI := Lib.hid (idxf_any l A c g lb q w eg hr hl hq)
  rw [← fidx_any q l]
  clear hq hr
  obtain ⟨V, hV⟩ : ∃ V, fidx q l = V := ⟨_, rfl⟩
  rw [hV] at CI ⊢
  clear hV
  go_enter Tryd.func48, Tryd.ntmps48
  go_wp2_with fail
  refine CI.out.mono ?_
  rintro e w' ⟨rfl, hb⟩
  clear CI
  replace hb := Lib.hid hb
  go_wp2_with fail
  go_ret
  exact ⟨rfl, hb.out⟩

theorem put1_any (x : Fd) (w : World) (hs : x.value.size ≤ 1000000) :
    Calls Tryd.prog 49 (#[x.agg] ++ #[]) w fun e w' => e = .returned (.bool (decide (400 < x.value.size))) ∧ Below w.heap.size w w' := by
  unfold Fd.agg
  show Calls Tryd.prog 49 #[.agg #[.string x.name, .string x.value]] w _
  obtain ⟨n, hn⟩ : ∃ n, x.value.size = n := ⟨_, rfl⟩
  have hd : decide ((400 : Int) < (n : Int)) = decide (400 < n) := by apply decide_eq_decide.2; omega
  rw [hn]
  go_enter Tryd.func49, Tryd.ntmps49
  go_wp2
  go_ret
  refine ⟨ret_bool ?_, (Below.refl _ w).alloc (Nat.le_refl _) _⟩
  first | exact hd | rfl
theorem ent_put1 : Ent 49 := enters_of Tryd.func49 (by kernel_rfl) rfl

def flines (fs : List Fd) : List UInt8 := fs.flatMap fline
theorem flines_snoc (fs : List Fd) (f : Fd) : flines (fs ++ [f]) = flines fs ++ fline f := by simp [flines]
def fok (f : Fd) : Bool := nameok f.name && valok f.value
def fput (fs : List Fd) : List UInt8 × Int :=
  if decide (16 < fs.length) || fs.any (fun x => decide (400 < x.value.size)) then ([], 4) else if fs.all fok then (0 :: 0 :: flines fs, 0) else ([], 5)
theorem pline_len (f : Fd) (h1 : f.name.size ≤ 60) (h2 : f.value.size ≤ 400) : (fline f).length ≤ 500 := by
  unfold fline
  have hv := ptext_len 0 7 f.value.data.toList
  rw [data_length] at hv
  split
  · rename_i k _
    have := pput_len 192 6 k; omega
  · rw [List.length_append]
    unfold fhead
    split
    · rename_i k _
      have := pput_len 80 4 k; omega
    · have hn := ptext_len 32 3 f.name.data.toList
      rw [data_length] at hn
      omega
theorem nameok_size {s : ByteArray} (h : nameok s = true) : s.size ≤ 60 := by
  unfold nameok at h
  simp only [Bool.and_eq_true, decide_eq_true_eq] at h
  exact h.2
theorem flines_len : ∀ (fs : List Fd), (∀ f ∈ fs, f.name.size ≤ 60 ∧ f.value.size ≤ 400) → (flines fs).length ≤ 500 * fs.length
  | [], _ => by simp [flines]
  | f :: fs, h => by
    have ih := flines_len fs (fun g hg => h g (by simp [hg]))
    have := pline_len f (h f (by simp)).1 (h f (by simp)).2
    rw [show flines (f :: fs) = fline f ++ flines fs from by simp [flines], List.length_append, List.length_cons]
    omega

def RetP (w : World) (x : List UInt8 × Int) (e : Ending) (w' : World) : Prop :=
  ∃ A c, e = .returned (.tuple #[.slice A x.1.length c, .int .i64 x.2]) ∧ w'.ownsRow w.heap.size 5 1 (.slice A x.1.length c) x.1.length (bv x.1) ∧ Below w.heap.size w w'

set_option maxRecDepth 100000 in
set_option maxHeartbeats 4000000 in
theorem fput_any (fs : List Fd) (A : Option Addr) (cap n : Nat) (w : World) (hn : fs.length = n) (hr : Rd w A (fdv fs)) (hl : n ≤ 1000000) (hs : ∀ f ∈ fs, f.name.size ≤ 1000000 ∧ f.value.size ≤ 1000000) :
    Calls Tryd.prog 36 #[.slice A n cap] w (RetP w (fput fs)) := by
  by_cases h16 : 16 < n
  · have d1 : decide ((16 : Int) < (n : Int)) = true := decide_eq_true (by omega)
    have hp : Hid (fput fs = ([], 4)) := Lib.hid (by unfold fput; rw [hn, decide_eq_true h16]; rfl)
    clear hn hr hs
    go_enter Tryd.func36, Tryd.ntmps36
    go_wp2_with fail
    go_ret2
    rw [hp.out]
    exact ⟨none, 0, rfl, World.ownsRow_nil _ _ _ _, Below.refl _ _⟩
  · have d1 : decide ((16 : Int) < (n : Int)) = false := decide_eq_false (by omega)
    have CF := contf_any fs A cap _ #[] (fun x => decide (400 < x.value.size)) w ent_put1 hr (by omega) (fun W x hW hx => (put1_any x W (hs x hx).2).mono (fun e w' h => ⟨h.1, hW.trans (h.2.mono hW.size)⟩))
    rw [hn] at CF
    obtain ⟨B, hB⟩ : ∃ B, (fs.any fun x => decide (400 < x.value.size)) = B := ⟨_, rfl⟩
    rw [hB] at CF
    cases B
    · have hv400 : ∀ f ∈ fs, f.value.size ≤ 400 := fun f hf => by
        have := List.any_eq_false.1 hB f hf
        simpa using this
      have hp : fput fs = if fs.all fok then (0 :: 0 :: flines fs, 0) else ([], 5) := by
        unfold fput; rw [hn, decide_eq_false h16, hB]; rfl
      have HP := Lib.hid hp
      have HR := Lib.hid hr
      have HS := Lib.hid hs
      have HN := Lib.hid hn
      have HV := Lib.hid hv400
      replace CF := Lib.hid CF
      replace hB := Lib.hid hB
      clear hp hr hs hn hv400
      go_enter Tryd.func36, Tryd.ntmps36
      go_wp2_with fail
      refine CF.out.mono ?_
      rintro e w1 ⟨rfl, b1⟩
      have H0 : Hid (∀ cs, cs = (bv [0, 0]).toArray → (w1.alloc (.cells cs 5)).ownsRow w.heap.size 5 1 (.slice (some ⟨w1.heap.size, 0, none⟩) 2 2) 2 (bv ([0, 0] ++ flines (fs.take 0))) ∧ Below w.heap.size w (w1.alloc (.cells cs 5))) := Lib.hid (fun cs hcs => by
        subst hcs
        exact ⟨World.ownsRow_lit w1 _ 2 b1.size (by simp [maxLen]) rfl, b1.alloc b1.size _⟩)
      clear CF b1
      go_wp2_with fail
      have K0 := H0.out _ rfl
      replace K0 := Lib.hid K0
      clear H0 d1
      go_loopw [4, 17] (fun v i wr => ∃ (k m c4 : Nat) (A4 : Option Addr), k ≤ n ∧ i = .int .i64 k ∧ v = .slice A4 m c4 ∧ Hid (([0, 0] ++ flines (fs.take k)).length = m ∧ (fs.take k).all fok = true ∧ wr.ownsRow w.heap.size 5 1 (.slice A4 m c4) m (bv ([0, 0] ++ flines (fs.take k))) ∧ Below w.heap.size w wr)) (fun _ i _ => n - (intOf i).toNat)
      case atStart => exact ⟨0, 2, 2, _, by omega, rfl, rfl, Lib.hid ⟨rfl, rfl, K0.out.1, K0.out.2⟩⟩
      case round =>
        clear K0
        obtain ⟨k, m, c4, A4, hk, rfl, rfl, HK⟩ := hrel
        obtain ⟨hm, hall, ho, hb⟩ := HK.out
        clear HK
        by_cases hkn : k < n
        · obtain ⟨f, hf⟩ : ∃ f, fs[k]? = some f := ⟨_, List.getElem?_eq_getElem (by rw [HN.out]; exact hkn)⟩
          obtain ⟨hkl, hfe⟩ := List.getElem?_eq_some_iff.1 hf
          obtain ⟨b, off, rfl, x0, x1⟩ := load_fd (HR.out.below hb) hkl
          rw [hfe] at x0 x1
          have hfm := List.mem_of_getElem? hf
          have hfs := HS.out f hfm
          have hfv := HV.out f hfm
          have htk : fs.take (k + 1) = fs.take k ++ [f] := by rw [List.take_succ_eq_append_getElem hkl, hfe]
          obtain ⟨fa, fb⟩ := f
          simp only at x0 x1 hfs hfv
          have hn60 := @nameok_size fa
          replace HR := HR
          obtain ⟨B1, hB1⟩ : ∃ B1, nameok fa = B1 := ⟨_, rfl⟩
          obtain ⟨B2, hB2⟩ : ∃ B2, valok fb = B2 := ⟨_, rfl⟩
          have hfk : fok ⟨fa, fb⟩ = (B1 && B2) := by unfold fok; rw [hB1, hB2]
          rw [hB1] at hn60
          have NM := Lib.hid (fun W => name_any fa W hfs.1)
          have PL := Lib.hid (fun W => plain_any fb W hfs.2)
          rw [hB1] at NM
          rw [hB2] at PL
          have hno : (B1 && B2) = false → fput fs = ([], 5) := fun h => by
            rw [HP.out, if_neg]
            intro hh
            have := List.all_eq_true.1 hh _ hfm
            rw [hfk, h] at this; cases this
          have hlm : m ≤ 20000 := by
            have := flines_len (fs.take k) (fun g hg => ⟨nameok_size (by
              have := List.all_eq_true.1 hall g hg
              unfold fok at this
              rw [Bool.and_eq_true] at this
              exact this.1), HV.out g (List.mem_of_mem_take hg)⟩)
            rw [List.length_append, List.length_take] at *
            simp only [List.length_cons, List.length_nil] at *
            omega
          replace hfm := Lib.hid hfm
          replace hf := Lib.hid hf
          replace hfe := Lib.hid hfe
          replace htk := Lib.hid htk
          replace hB1 := Lib.hid hB1
          replace hB2 := Lib.hid hB2
          replace hm := Lib.hid hm
          replace hall := Lib.hid hall
          replace ho := Lib.hid ho
          replace hb := Lib.hid hb
          cases B1
          · have hp5 := Lib.hid (hno rfl)
            clear hno hn60 hfk
            go_wp2_with fail
            refine (NM.out _).mono ?_
            rintro e w2 ⟨rfl, rfl⟩
            go_wp2_with fail
            go_ret2
            rw [hp5.out]
            exact ⟨none, 0, rfl, World.ownsRow_nil _ _ _ _, hb.out.alloc hb.out.size _⟩
          · cases B2
            · have hp5 := Lib.hid (hno rfl)
              clear hno hn60 hfk
              go_wp2_with fail
              refine (NM.out _).mono ?_
              rintro e w2 ⟨rfl, rfl⟩
              go_wp2_with fail
              refine (PL.out _).mono ?_
              rintro e w2 ⟨rfl, rfl⟩
              go_wp2_with fail
              go_ret2
              rw [hp5.out]
              exact ⟨none, 0, rfl, World.ownsRow_nil _ _ _ _, hb.out.alloc hb.out.size _⟩
            · have hll := pline_len ⟨fa, fb⟩ (hn60 rfl) hfv
              have hall2 : Hid ((fs.take (k + 1)).all fok = true) := Lib.hid (by rw [htk.out, List.all_append, hall.out]; simp [hfk])
              have hfl : Hid ([0, 0] ++ flines (fs.take (k + 1)) = [0, 0] ++ flines (fs.take k) ++ fline ⟨fa, fb⟩) := Lib.hid (by rw [htk.out, flines_snoc, List.append_assoc])
              obtain ⟨q, hq⟩ : ∃ q, (fline ⟨fa, fb⟩).length = q := ⟨_, rfl⟩
              have LN := Lib.hid (fun W => line_any fa fb W hfs.1 hfs.2)
              rw [hq] at LN hll
              have hm2 : Hid (([0, 0] ++ flines (fs.take (k + 1))).length = m + q) := Lib.hid (by rw [hfl.out, List.length_append, hm.out, hq])
              have b2 := Lib.hid (hb.out.alloc hb.out.size (.cells #[.string fa, .string fb] 47))
              have o2 := Lib.hid (ho.out.alloc (.cells #[.string fa, .string fb] 47))
              clear hno hn60 hfk
              replace hq := Lib.hid hq
              go_wp2_with fail
              refine (NM.out _).mono ?_
              rintro e w2 ⟨rfl, rfl⟩
              go_wp2_with fail
              refine (PL.out _).mono ?_
              rintro e w2 ⟨rfl, rfl⟩
              go_wp2_with fail
              refine (LN.out _).mono ?_
              rintro e w3 ⟨A5, c5, rfl, o5, b5⟩
              have o3 := Lib.hid (own_fr o2.out (Fr.of_below b5 NoS) (fun _ _ x => x))
              have r5 := Lib.hid (Rd.of_own o5)
              have b3 := Lib.hid (b2.out.trans (b5.mono b2.out.size))
              clear o5 b5 o2 b2 ho hb LN NM PL
              go_wp2_with (at_builtin; refine wpList_app _ rfl _ _ 23 rfl w.heap.size 5 (.int .u8 0) 1 infoB Tryd.underlying23 rfl (.slice A4 m c4) m (bv ([0, 0] ++ flines (fs.take k))) rfl o3.out A5 q c5 (bv (fline ⟨fa, fb⟩)) rfl (by rw [bv_length]; exact hq.out) r5.out (bv_one _) (by unfold maxLen; omega) (by omega) b3.out.size ?_; intro A6 c6 w6 ho6 hg6 _; rw [← bv_append, ← hfl.out] at ho6; have b6 := Lib.hid (Fr.under b3.out b3.out.size ((Fr.refl (fun q => (Value.slice A4 m c4).ownBlock = some q) _).grown hg6 (fun _ hq _ => hq)) (fun q hq _ => (o3.out.lt q hq).1)); replace ho6 := Lib.hid ho6; clear hg6)
              go_roundw
              case rel => exact ⟨k + 1, m + q, c6, A6, by omega, by go_num, by first | rfl | go_num, Lib.hid ⟨hm2.out, hall2.out, ho6.out, b6.out⟩⟩
              case measure => simp [intOf]; omega
        · have hk' : k = n := by omega
          have htk : fs.take k = fs := List.take_of_length_le (by rw [HN.out]; omega)
          rw [htk] at hm hall ho
          have hp0 : Hid (fput fs = (0 :: 0 :: flines fs, 0)) := Lib.hid (by rw [HP.out, if_pos hall])
          replace hm := Lib.hid hm
          replace hall := Lib.hid hall
          replace ho := Lib.hid ho
          replace hb := Lib.hid hb
          replace htk := Lib.hid htk
          go_wp2_with fail
          go_ret2
          rw [hp0.out]
          have e : (0 :: 0 :: flines fs : List UInt8).length = m := hm.out
          refine ⟨A4, c4, by rw [e]; rfl, ?_, hb.out⟩
          rw [e]; exact ho.out
    · have hp : Hid (fput fs = ([], 4)) := Lib.hid (by unfold fput; rw [hn, decide_eq_false h16, hB]; rfl)
      replace CF := Lib.hid CF
      replace hB := Lib.hid hB
      clear hn hr hs
      go_enter Tryd.func36, Tryd.ntmps36
      go_wp2_with fail
      refine CF.out.mono ?_
      rintro e w1 ⟨rfl, b1⟩
      replace b1 := Lib.hid b1
      clear CF
      go_wp2_with fail
      go_ret2
      rw [hp.out]
      exact ⟨none, 0, rfl, World.ownsRow_nil _ _ _ _, b1.out⟩
end Go.Proofs.YtdldipkbknhhoaaDoor

/- 's[l:h]', 's[l:]' of a slice: the value under one name, and what it reads as. Nothing of the program. -/
namespace Go.Proofs.YtdldipkbknhhoaaDoor
open Go.RowKit

/-- Where a cut's elements lie. -/
structure CutOf (A X : Option Addr) (l h cap : Nat) : Prop where
  rd : ∀ (w : World) (xs : List Value), h ≤ xs.length → xs.length ≤ cap → Rd w A xs → Rd w X ((xs.drop l).take (h - l))
  blk : ∀ a, X = some a → ∃ a0, A = some a0 ∧ a0.block = a.block
  nl : X = none → A = none
  eq : cap ≠ l → X = A.map (·.add l)

theorem cutOf (A : Option Addr) (l h cap : Nat) (hl : l ≤ h) (hh : h ≤ cap) : CutOf A (if cap = l then A else A.map (·.add l)) l h cap := by
  refine ⟨fun w xs h1 h2 hr => (hr.drop (k := l) (by omega) h2).take _, fun a ha => ?_, fun h => by split at h <;> simpa using h, fun h => by rw [if_neg h]⟩
  split at ha
  · exact ⟨a, ha, rfl⟩
  · cases A with
    | none => cases ha
    | some a0 =>
      injection ha with ha
      subst ha
      exact ⟨a0, rfl, by unfold Addr.add; split <;> rfl⟩

section
variable {P : Program} {t e : TypeId} {z : Value} {bytes : Nat}
theorem cut_lh (ht : P.underlying t = some (.slice e)) (hinfo : (P.info? e).map (fun i => (i.zero, i.size, i.bytes)) = some (some z, 1, bytes)) (A : Option Addr) (len cap l h : Nat) (hl : l ≤ h) (hh : h ≤ cap) :
    ∃ X, (∀ w : World, (Instr.sliceAt t (.slice A len cap) (some (.int .i64 l)) (some (.int .i64 h)) none).run P w = .ok (.slice X (h - l) (cap - l)) w) ∧ CutOf A X l h cap := by
  refine ⟨_, fun w => ?_, cutOf A l h cap hl hh⟩
  obtain ⟨i, hi, -, hz, -⟩ := info_parts hinfo
  simp [Instr.sliceAt, Instr.slice, run_underlying ht, Instr.sliceBounds, run_sliceBound, (by omega : (l : Int) ≤ h), (by omega : (h : Int) ≤ cap), sizeOf, typeInfo, hi, hz]
theorem cut_l (ht : P.underlying t = some (.slice e)) (hinfo : (P.info? e).map (fun i => (i.zero, i.size, i.bytes)) = some (some z, 1, bytes)) (A : Option Addr) (len cap l : Nat) (hl : l ≤ len) (hh : len ≤ cap) :
    ∃ X, (∀ w : World, (Instr.sliceAt t (.slice A len cap) (some (.int .i64 l)) none none).run P w = .ok (.slice X (len - l) (cap - l)) w) ∧ CutOf A X l len cap := by
  refine ⟨_, fun w => ?_, cutOf A l len cap hl hh⟩
  obtain ⟨i, hi, -, hz, -⟩ := info_parts hinfo
  simp [Instr.sliceAt, Instr.slice, run_underlying ht, Instr.sliceBounds, run_sliceBound, (by omega : (l : Int) ≤ len), sizeOf, typeInfo, hi, hz]
theorem cut_h (ht : P.underlying t = some (.slice e)) (hinfo : (P.info? e).map (fun i => (i.zero, i.size, i.bytes)) = some (some z, 1, bytes)) (A : Option Addr) (len cap h : Nat) (hh : h ≤ cap) :
    ∀ w : World, (Instr.sliceAt t (.slice A len cap) none (some (.int .i64 h)) none).run P w = .ok (.slice A h cap) w := by
  intro w
  obtain ⟨i, hi, -, hz, -⟩ := info_parts hinfo
  have e : (if cap = 0 then A else Option.map (fun x => x.add (0 * 1)) A) = A := by
    split
    · rfl
    · cases A with
      | none => rfl
      | some a => simp [Addr.add]
  simp only [Nat.zero_mul] at e
  simp [Instr.sliceAt, Instr.slice, run_underlying ht, Instr.sliceBounds, run_sliceBound, (by omega : (h : Int) ≤ cap), sizeOf, typeInfo, hi, hz, e]
end
theorem CutOf.bytes {A X : Option Addr} {l h cap : Nat} (q : CutOf A X l h cap) {w : World} {xs : List UInt8} (hr : Rd w A (bv xs)) (h1 : h ≤ xs.length) (h2 : xs.length ≤ cap) : Rd w X (bv ((xs.drop l).take (h - l))) := by
  rw [bv, List.map_take, List.map_drop]; exact q.rd w _ (by simpa [bv] using h1) (by simpa [bv] using h2) hr
/-- min, max of two numbers, under one name. -/
theorem run_min2 {P : Program} (x y m : Int) (h : m = min x y) (ts : Array TypeId) (t : TypeId) (w : World) : (Builtin.min_ ts t #[.int .i64 x, .int .i64 y]).run P w = .ok (.int .i64 m) w := by
  rw [run_min_int2, h]
  congr 2
  split <;> omega
theorem run_max2 {P : Program} (x y m : Int) (h : m = max x y) (ts : Array TypeId) (t : TypeId) (w : World) : (Builtin.max_ ts t #[.int .i64 x, .int .i64 y]).run P w = .ok (.int .i64 m) w := by
  rw [run_max_int2, h]
  congr 2
  split <;> omega
theorem run_min3 {P : Program} (x y z m : Int) (h : m = min (min x y) z) (ts : Array TypeId) (t : TypeId) (w : World) : (Builtin.min_ ts t #[.int .i64 x, .int .i64 y, .int .i64 z]).run P w = .ok (.int .i64 m) w := by
  simp only [Builtin.min_, Builtin.min2, List.foldlM_cons, List.foldlM_nil, Sem.run_bind, Sem.run_pure, Result.andThen_ok, h]
  congr 2
  split <;> split <;> omega
theorem u8_ne {a b : UInt8} (h : a ≠ b) : ((a.toNat : Int) == (b.toNat : Int)) = false := by
  rw [beq_eq_false_iff_ne]; intro e; exact h (UInt8.toNat_inj.1 (Int.ofNat.inj e))
theorem u8_ne' {a b : UInt8} (h : a ≠ b) : ((a.toNat : Int) != (b.toNat : Int)) = true := by
  rw [bne_iff_ne]; intro e; exact h (UInt8.toNat_inj.1 (Int.ofNat.inj e))
section
variable {P : Program} {t e : TypeId} {z : Value} {bytes : Nat}
theorem cut_hI (ht : P.underlying t = some (.slice e)) (hinfo : (P.info? e).map (fun i => (i.zero, i.size, i.bytes)) = some (some z, 1, bytes)) (A : Option Addr) (len cap h : Nat) (hi : Int) (he : hi = h) (hh : h ≤ cap) :
    ∀ w : World, (Instr.sliceAt t (.slice A len cap) none (some (.int .i64 hi)) none).run P w = .ok (.slice A h cap) w := by
  subst he; exact cut_h ht hinfo A len cap h hh
end
theorem Rd.take_bytes {w : World} {A : Option Addr} {xs : List UInt8} (h : Rd w A (bv xs)) (k : Nat) : Rd w A (bv (xs.take k)) := by rw [bv, List.map_take]; exact h.take k
/-- A cut up to the end. -/
theorem CutOf.bytes' {A X : Option Addr} {l h cap : Nat} (q : CutOf A X l h cap) {w : World} {xs : List UInt8} (hr : Rd w A (bv xs)) (h1 : xs.length = h) (h2 : h ≤ cap) : Rd w X (bv (xs.drop l)) := by
  have := q.bytes hr (by omega) (by omega)
  rwa [List.take_of_length_le (by simp; omega)] at this
section
variable {P : Program} {t e : TypeId} {z : Value} {bytes : Nat}
theorem cut_lhI (ht : P.underlying t = some (.slice e)) (hinfo : (P.info? e).map (fun i => (i.zero, i.size, i.bytes)) = some (some z, 1, bytes)) (A : Option Addr) (len cap l h : Nat) (li hi : Int) (h1 : li = l) (h2 : hi = h) (hl : l ≤ h) (hh : h ≤ cap) :
    ∃ X, (∀ w : World, (Instr.sliceAt t (.slice A len cap) (some (.int .i64 li)) (some (.int .i64 hi)) none).run P w = .ok (.slice X (h - l) (cap - l)) w) ∧ CutOf A X l h cap := by
  subst h1 h2; exact cut_lh ht hinfo A len cap l h hl hh
end
end Go.Proofs.YtdldipkbknhhoaaDoor

/- fields: the reader: number, text, value. -/
namespace Go.Proofs.YtdldipkbknhhoaaDoor
open Go.RowKit

theorem res1 {P : Program} {fn : Func} {p : Tmp} {s : TypeId} (h : fn.results = #[.cell p s]) (tmps : Array Value) (w : World) (a : Addr) (x : Value)
    (ha : tmps.getD p undef = .pointer (some a)) (hx : (loadVar s a).run P w = .ok x w) : (results fn tmps).run P w = .ok x w := by
  simp only [Array.getD_eq_getD_getElem?] at ha
  simp only [results, h]
  simp [Sem.run_bind, Result.andThen, ha, asAddr, hx]

theorem HasRow.set2 {W : World} {B : Nat} {t : TypeId} {x y : Value} (h : HasRow W B t #[x, y]) (u v : Value) : HasRow ((W.setCell ⟨B, 0, none⟩ u).setCell ⟨B, 1, none⟩ v) B t #[u, v] :=
  heap_setCell_same _ B 1 _ t v (heap_setCell_same W B 0 _ t u h)
theorem loadF {w : World} {g : Nat} {a b : ByteArray} (h : HasRow w g 47 #[.string a, .string b]) : (loadVar 47 ⟨g, 0, none⟩).run Tryd.prog w = .ok (.agg #[.string a, .string b]) w := by
  have k0 := h.cell 0 _ rfl
  have k1 := h.cell 1 _ rfl
  simp [go_sem, k0, k1]
set_option maxRecDepth 100000 in
set_option maxHeartbeats 2000000 in
theorem fixed_far (w : World) : Calls Tryd.prog 64 #[] w fun e w' => ∃ g, e = .returned (.slice (some ⟨g, 0, none⟩) 16 16) ∧ w.heap.size ≤ g ∧ (∀ (N : Nat) (a b : ByteArray), fixed[N]? = some (⟨a, b⟩ : Fd) → w'.cell? ⟨g, N * 2, none⟩ = some (.string a) ∧ w'.cell? ⟨g, N * 2 + 1, none⟩ = some (.string b)) ∧ Below w.heap.size w w' := by
  go_enter Tryd.func64, Tryd.ntmps64
  go_wp2
  go_ret
  refine ⟨_, rfl, Nat.le_refl _, fun N a b h => ?_, (Below.refl _ w).alloc (Nat.le_refl _) _⟩
  obtain ⟨hN, e⟩ := List.getElem?_eq_some_iff.1 h
  obtain ⟨b', off', e1, x0, x1⟩ := load_fd (Rd.fresh_mark w (fdv fixed) _ _) hN
  injection e1 with e1
  injection e1 with e1 e2
  subst e1 e2
  rw [e, Nat.zero_add] at x0 x1
  exact ⟨x0, x1⟩
structure Rdr (w : World) (p : Nat) (A : Option Addr) (n c : Nat) (l : List UInt8) (e : Int) : Prop where
  row : HasRow w p 73 #[.slice A n c, .int .i64 e]
  rd : Rd w A (bv l)
  len : l.length = n
  cap : n ≤ c
  capx : c ≤ 9223372036854775807
  far : ∀ a, A = some a → a.block ≠ p
  lt : ∀ a, A = some a → a.block < w.heap.size
  small : n ≤ 1000000
def RdrB (B : Nat) (w : World) (p : Nat) (l : List UInt8) (e : Int) : Prop := ∃ A n c, Rdr w p A n c l e ∧ ∀ a, A = some a → a.block < B
section
variable {w w' : World} {p : Nat} {A : Option Addr} {n c : Nat} {l : List UInt8} {e : Int}
theorem Rdr.fr {S : Nat → Prop} (h : Rdr w p A n c l e) (F : Fr S w w') (hp : ¬ S p) (hA : ∀ a, A = some a → ¬ S a.block) : Rdr w' p A n c l e :=
  ⟨h.row.fr F hp, h.rd.fr F (fun _ a ha => hA a ha), h.len, h.cap, h.capx, h.far, (fun a ha => by have := h.lt a ha; have := F.size; omega), h.small⟩
theorem Rdr.below (h : Rdr w p A n c l e) (b : Below w.heap.size w w') : Rdr w' p A n c l e := h.fr (Fr.of_below b NoS) (fun x => x) (fun _ _ x => x)
theorem Rdr.setE (h : Rdr w p A n c l e) (e' : Int) : Rdr (w.setCell ⟨p, 1, none⟩ (.int .i64 e')) p A n c l e' :=
  ⟨heap_setCell_same w p 1 _ _ _ h.row, h.rd.fr ((Fr.refl (fun k => k = p) w).setCell (p := ⟨p, 1, none⟩) (fun _ => rfl) _) (fun _ a ha e => h.far a ha e), h.len, h.cap, h.capx, h.far, (fun a ha => by have := h.lt a ha; simpa [World.setCell] using this), h.small⟩
theorem Rdr.setB (h : Rdr w p A n c l e) (X : Option Addr) (m : Nat) (hm : m ≤ n) (hc : CutOf A X m n c) : Rdr (w.setCell ⟨p, 0, none⟩ (.slice X (n - m) (c - m))) p X (n - m) (c - m) (l.drop m) e := by
  have hl := h.len
  have hcap := h.cap
  have hcx := h.capx
  have hsm := h.small
  refine ⟨heap_setCell_same w p 0 _ _ _ h.row, ?_, by rw [List.length_drop, hl], by omega, by omega, fun a ha => ?_, fun a ha => ?_, by omega⟩
  · have := hc.bytes' h.rd hl h.cap
    exact this.fr ((Fr.refl (fun k => k = p) w).setCell (p := ⟨p, 0, none⟩) (fun _ => rfl) _) (fun _ a ha e => by
      obtain ⟨a0, h1, h2⟩ := hc.blk a ha
      exact h.far a0 h1 (h2.trans e))
  · obtain ⟨a0, h1, h2⟩ := hc.blk a ha
    rw [← h2]; exact h.far a0 h1
  · obtain ⟨a0, h1, h2⟩ := hc.blk a ha
    have := h.lt a0 h1
    rw [← h2]
    simpa [World.setCell] using this
theorem frp_cell (w : World) (p i : Nat) (v : Value) : Fr (fun k => k = p) w (w.setCell ⟨p, i, none⟩ v) := (Fr.refl (fun k => k = p) w).setCell (p := ⟨p, i, none⟩) (fun _ => rfl) v
end

/-- The reader behind a write into a result's block g. -/
theorem rdr_out {w0 w : World} {p g : Nat} {A : Option Addr} {n c : Nat} {l : List UInt8} {e : Int} {x y : Value} (h : Rdr w p A n c l e) (hR : HasRow w g 47 #[x, y]) (hpg : p ≠ g) (hA : ∀ a, A = some a → a.block ≠ g) (F : Fr (fun k => k = p) w0 w) (hg : w0.heap.size ≤ g) (u v : Value) :
    HasRow ((w.setCell ⟨g, 0, none⟩ u).setCell ⟨g, 1, none⟩ v) g 47 #[u, v] ∧ Rdr ((w.setCell ⟨g, 0, none⟩ u).setCell ⟨g, 1, none⟩ v) p A n c l e ∧ Fr (fun k => k = p) w0 ((w.setCell ⟨g, 0, none⟩ u).setCell ⟨g, 1, none⟩ v) := by
  refine ⟨hR.set2 u v, (h.fr (frp_cell _ g 0 u) (fun e => hpg e) (fun a ha => hA a ha)).fr (frp_cell _ g 1 v) (fun e => hpg e) (fun a ha => hA a ha), ?_⟩
  exact (F.setCell (p := ⟨g, 0, none⟩) (fun h => absurd h (by simp only; omega)) u).setCell (p := ⟨g, 1, none⟩) (fun h => absurd h (by simp only; omega)) v
def fdz : Fd := ⟨⟨#[]⟩, ⟨#[]⟩⟩
def pnum (b : Nat) (l : List UInt8) : List UInt8 × Int × Fd :=
  if (pget b l).2.2 ≠ 0 then (l, (pget b l).2.2, fdz) else if 16 ≤ (pget b l).1 then (l, 5, fdz) else (l.drop (pget b l).2.1.toNat, 0, fixed.getD (pget b l).1.toNat fdz)
def ptxt (b : Nat) (l : List UInt8) (e : Int) : List UInt8 × Int × ByteArray :=
  if e ≠ 0 then (l, e, ⟨#[]⟩) else (l.drop (pgettext b l).2.1.toNat, (pgettext b l).2.2, ⟨(pgettext b l).1.toArray⟩)
def pval (l : List UInt8) (e : Int) : List UInt8 × Int × ByteArray :=
  if (ptxt 7 l e).2.1 ≠ 0 then ptxt 7 l e else if 400 < (ptxt 7 l e).2.2.size then ((ptxt 7 l e).1, 4, (ptxt 7 l e).2.2) else if valok (ptxt 7 l e).2.2 = true then ptxt 7 l e else ((ptxt 7 l e).1, 5, (ptxt 7 l e).2.2)

theorem pget_bd (b : Nat) (l : List UInt8) (hb1 : 1 ≤ b) (hb8 : b ≤ 8) (h : (pget b l).2.2 = 0) : 0 ≤ (pget b l).1 ∧ (pget b l).1 ≤ 4611686018427387903 ∧ 1 ≤ (pget b l).2.1 ∧ (pget b l).2.1 ≤ l.length := by
  cases l with
  | nil => simp [pget] at h
  | cons x r => have := pget_ok b x r hb1 hb8 h; simpa using this

section
variable {w w' : World} {p : Nat} {A : Option Addr} {n c : Nat} {l : List UInt8} {e : Int}
set_option maxRecDepth 100000 in
set_option maxHeartbeats 4000000 in
theorem number_any (h : Rdr w p A n c l e) (B : Nat) (hB : ∀ a, A = some a → a.block < B) (b : Nat) (hb1 : 1 ≤ b) (hb8 : b ≤ 8) (l' : List UInt8) (e1 : Int) (fa fb : ByteArray) (hp : pnum b l = (l', e1, ⟨fa, fb⟩)) :
    Calls Tryd.prog 55 #[.pointer (some ⟨p, 0, none⟩), .int .i64 b] w fun en w' => en = .returned (.agg #[.string fa, .string fb]) ∧ RdrB B w' p l' e1 ∧ Fr (fun k => k = p) w w' := by
  have hplt := h.row.lt
  have B1 := (Below.refl _ w).alloc (Nat.le_refl _) (.cells #[.string ⟨#[]⟩, .string ⟨#[]⟩] 47)
  have R1 := HasRow.new w 47 #[.string ⟨#[]⟩, .string ⟨#[]⟩]
  obtain ⟨W1, hW1⟩ : ∃ W1, w.alloc (.cells #[.string ⟨#[]⟩, .string ⟨#[]⟩] 47) = W1 := ⟨_, rfl⟩
  rw [hW1] at B1 R1
  obtain ⟨g, hg⟩ : ∃ g, w.heap.size = g := ⟨_, rfl⟩
  rw [hg] at R1
  have hpg : p ≠ g := by omega
  have H1 := Lib.hid (h.below B1)
  have HLt := Lib.hid hB
  have HFar : Hid (∀ a, A = some a → a.block ≠ g) := Lib.hid (fun a ha e => by
    have := h.lt a ha
    omega)
  replace hW1 := Lib.hid hW1
  replace hg := Lib.hid hg
  replace B1 := Lib.hid B1
  replace R1 := Lib.hid R1
  clear h
  go_enter Tryd.func55, Tryd.ntmps55
  go_wp2_with fail
  rw [hW1.out, hg.out]
  refine (fixed_far W1).mono ?_
  rintro en w2 ⟨gF, rfl, hgF, rdF, b2⟩
  have B2 := Lib.hid (B1.out.trans (b2.mono B1.out.size))
  have R2 := Lib.hid (R1.out.below b2)
  have H2 := Lib.hid (H1.out.below b2)
  replace rdF := Lib.hid rdF
  have x0 := H2.out.row.cell 0 _ rfl
  have hgFp : gF ≠ p := by have := B1.out.size; omega
  clear R1 B1 b2 H1
  go_wp2_with fail
  have PG := pget_any l b A c w2 hb1 hb8 H2.out.rd (by have := H2.out.len; have := H2.out.small; omega)
  rw [H2.out.len] at PG
  refine PG.mono ?_
  rintro en w2b ⟨rfl, rfl⟩
  have hbd := pget_bd b l hb1 hb8
  unfold pnum at hp
  obtain ⟨N, hN⟩ : ∃ N, (pget b l).1 = N := ⟨_, rfl⟩
  obtain ⟨M, hM⟩ : ∃ M, (pget b l).2.1 = M := ⟨_, rfl⟩
  obtain ⟨E, hE⟩ : ∃ E, (pget b l).2.2 = E := ⟨_, rfl⟩
  unfold ptup
  rw [hN, hM, hE]
  rw [hN, hM, hE] at hp hbd
  rw [H2.out.len] at hbd
  replace hN := Lib.hid hN
  replace hM := Lib.hid hM
  replace hE := Lib.hid hE
  clear PG x0
  have x1 := H2.out.row.cell 1 _ rfl
  have f1 := H2.out.row.frozen 1
  have g0 := R2.out.cell 0 _ rfl
  have g1 := R2.out.cell 1 _ rfl
  have q0 := R2.out.frozen 0
  have q1 := R2.out.frozen 1
  have HLt2 := HLt
  by_cases hE0 : E = 0
  · obtain ⟨n0, n1, m1, m2⟩ := hbd hE0
    subst hE0
    rw [if_neg (by simp)] at hp
    by_cases h16 : 16 ≤ N
    · rw [if_pos h16] at hp
      injection hp with hp1 hp2
      injection hp2 with hp2 hp3
      unfold fdz at hp3
      injection hp3 with hp3 hp4
      subst hp1 hp2 hp3 hp4
      have d1 : decide (16 ≤ N) = true := decide_eq_true h16
      have HE := Lib.hid (H2.out.setE 5)
      clear hbd
      have HO := Lib.hid (rdr_out HE.out (R2.out.other (B' := p) (fun e => hpg e.symm) 1 (.int .i64 5)) hpg HFar.out ((Fr.of_below B2.out (fun k => k = p)).trans (frp_cell w2 p 1 (.int .i64 5))) (by rw [hg.out]; exact Nat.le_refl _) (.string ⟨#[]⟩) (.string ⟨#[]⟩))
      go_wp2_with fail
      refine bodyPost_ret (v := .agg #[.string ⟨#[]⟩, .string ⟨#[]⟩]) (res1 rfl _ _ ⟨g, 0, none⟩ _ rfl (loadF HO.out.1)) rfl ?_
      exact ⟨rfl, ⟨_, _, _, HO.out.2.1, HLt2.out⟩, HO.out.2.2⟩
    · rw [if_neg h16] at hp
      injection hp with hp1 hp2
      injection hp2 with hp2 hp3
      obtain ⟨N, rfl⟩ : ∃ N' : Nat, N = N' := ⟨N.toNat, by omega⟩
      obtain ⟨M, rfl⟩ : ∃ M' : Nat, M = M' := ⟨M.toNat, by omega⟩
      rw [Int.toNat_natCast] at hp1 hp3
      subst hp1 hp2
      have hN16 : N < 16 := by omega
      have hMn : M ≤ n := by omega
      have d1 : decide (16 ≤ (N : Int)) = false := decide_eq_false h16
      have d1' : decide (16 ≤ N) = false := decide_eq_false (by omega)
      have hN16I : (N : Int) < 16 := by omega
      have hfx : fixed[N]? = some ⟨fa, fb⟩ := by
        rw [List.getD_eq_getElem?_getD] at hp3
        rw [List.getElem?_eq_getElem (show N < fixed.length from hN16)] at hp3 ⊢
        rw [← hp3]; rfl
      have HE := Lib.hid (H2.out.setE 0)
      obtain ⟨X, hX, hXc⟩ := cut_l (P := Tryd.prog) Tryd.underlying23 infoB A n c M hMn H2.out.cap
      obtain ⟨n2, hn2⟩ : ∃ n2, n - M = n2 := ⟨_, rfl⟩
      obtain ⟨c2, hc2⟩ : ∃ c2, c - M = c2 := ⟨_, rfl⟩
      have HB := HE.out.setB X M hMn hXc
      rw [hn2, hc2] at HB
      rw [hn2, hc2] at hX
      have e0 := HE.out.row.cell 0 _ rfl
      have e1 := HE.out.row.frozen 0
      have F3 := (((Fr.of_below B2.out (fun k => k = p)).trans (frp_cell w2 p 1 (.int .i64 0))).trans (frp_cell _ p 0 (.slice X n2 c2)))
      have hrow := rdF.out N fa fb hfx
      have y0 := (((frp_cell w2 p 1 (.int .i64 0)).trans (frp_cell _ p 0 (.slice X n2 c2))).cell (World.block_lt_of_cell? w2 _ hrow.1) hgFp).trans hrow.1
      have y1 := (((frp_cell w2 p 1 (.int .i64 0)).trans (frp_cell _ p 0 (.slice X n2 c2))).cell (World.block_lt_of_cell? w2 _ hrow.2) hgFp).trans hrow.2
      have HO := Lib.hid (rdr_out HB ((R2.out.other (B' := p) (fun e => hpg e.symm) 1 (.int .i64 0)).other (B' := p) (fun e => hpg e.symm) 0 (.slice X n2 c2)) hpg (fun a ha => by
        obtain ⟨a0, h1, h2⟩ := hXc.blk a ha
        rw [← h2]; exact HFar.out a0 h1) F3 (by rw [hg.out]; exact Nat.le_refl _) (.string fa) (.string fb))
      have HLt2 : Hid (∀ a, X = some a → a.block < B) := Lib.hid (fun a ha => by
        obtain ⟨a0, h1, h2⟩ := hXc.blk a ha
        rw [← h2]; exact HLt.out a0 h1)
      clear hbd hp3 hfx F3 HB hrow hXc
      replace hn2 := Lib.hid hn2
      replace hc2 := Lib.hid hc2
      go_wp2_with fail
      refine bodyPost_ret (v := .agg #[.string fa, .string fb]) (res1 rfl _ _ ⟨g, 0, none⟩ _ rfl (loadF HO.out.1)) rfl ?_
      exact ⟨rfl, ⟨_, _, _, HO.out.2.1, HLt2.out⟩, HO.out.2.2⟩
  · rw [if_pos hE0] at hp
    injection hp with hp1 hp2
    injection hp2 with hp2 hp3
    unfold fdz at hp3
    injection hp3 with hp3 hp4
    subst hp1 hp2 hp3 hp4
    have d1 : (E == 0) = false := by rw [beq_eq_false_iff_ne]; exact hE0
    have d1' : (E != 0) = true := by rw [bne_iff_ne]; exact hE0
    have HE := Lib.hid (H2.out.setE E)
    have HO := Lib.hid (rdr_out HE.out (R2.out.other (B' := p) (fun e => hpg e.symm) 1 (.int .i64 E)) hpg HFar.out ((Fr.of_below B2.out (fun k => k = p)).trans (frp_cell w2 p 1 (.int .i64 E))) (by rw [hg.out]; exact Nat.le_refl _) (.string ⟨#[]⟩) (.string ⟨#[]⟩))
    clear hbd
    go_wp2_with fail
    refine bodyPost_ret (v := .agg #[.string ⟨#[]⟩, .string ⟨#[]⟩]) (res1 rfl _ _ ⟨g, 0, none⟩ _ rfl (loadF HO.out.1)) rfl ?_
    exact ⟨rfl, ⟨_, _, _, HO.out.2.1, HLt2.out⟩, HO.out.2.2⟩
end
end Go.Proofs.YtdldipkbknhhoaaDoor

/- fields: the reader: text, value. -/
namespace Go.Proofs.YtdldipkbknhhoaaDoor
open Go.RowKit

theorem pgettext_bd (b : Nat) (l : List UInt8) (hb1 : 1 ≤ b) (hb7 : b ≤ 7) : 0 ≤ (pgettext b l).2.1 ∧ (pgettext b l).2.1 ≤ l.length ∧ (pgettext b l).1.length ≤ l.length := by
  cases l with
  | nil => simp [pgettext]
  | cons x r =>
    have key : pgettext b (x :: r) = if (x.toNat : Int) / 2 ^ b % 2 = 1 then ([], 0, 6)
      else if (pget b (x :: r)).2.2 ≠ 0 then ([], 0, (pget b (x :: r)).2.2)
      else if 2000 < (pget b (x :: r)).1 then ([], 0, 4)
      else if ((x :: r).length : Int) - (pget b (x :: r)).2.1 < (pget b (x :: r)).1 then ([], 0, 3)
      else (((x :: r).drop (pget b (x :: r)).2.1.toNat).take (pget b (x :: r)).1.toNat, (pget b (x :: r)).2.1 + (pget b (x :: r)).1, 0) := rfl
    rw [key]
    split
    · simp; omega
    · split
      · simp; omega
      · rename_i h
        have hE : (pget b (x :: r)).2.2 = 0 := by simpa using h
        have := pget_bd b (x :: r) hb1 (by omega) hE
        split
        · simp; omega
        · split
          · simp; omega
          · refine ⟨by simp only; omega, by simp only; omega, ?_⟩
            simp only [List.length_take, List.length_drop]; omega

section
variable {w w' : World} {p : Nat} {A : Option Addr} {n c : Nat} {l : List UInt8} {e : Int}
set_option maxRecDepth 100000 in
set_option maxHeartbeats 4000000 in
theorem text_any (h : Rdr w p A n c l e) (B : Nat) (hB : ∀ a, A = some a → a.block < B) (b : Nat) (hb1 : 1 ≤ b) (hb7 : b ≤ 7) (l' : List UInt8) (e1 : Int) (s : ByteArray) (hp : ptxt b l e = (l', e1, s)) :
    Calls Tryd.prog 56 #[.pointer (some ⟨p, 0, none⟩), .int .i64 b] w fun en w' => en = .returned (.string s) ∧ RdrB B w' p l' e1 ∧ Fr (fun k => k = p) w w' := by
  have x0 := h.row.cell 0 _ rfl
  have x1 := h.row.cell 1 _ rfl
  unfold ptxt at hp
  by_cases he : e = 0
  · subst he
    rw [if_neg (by simp)] at hp
    injection hp with hp1 hp2
    injection hp2 with hp2 hp3
    have PG := gettext_any l b A c w hb1 hb7 h.rd (by have := h.len; have := h.small; omega) (by rw [h.len]; exact h.cap) h.capx
    rw [h.len] at PG
    have hbd := pgettext_bd b l hb1 hb7
    unfold tpgettext at PG
    rw [hp3, hp2] at PG
    obtain ⟨M, hM⟩ : ∃ M, (pgettext b l).2.1 = M := ⟨_, rfl⟩
    rw [hM] at PG hp1 hbd
    rw [h.len] at hbd
    obtain ⟨M, rfl⟩ : ∃ M' : Nat, M = M' := ⟨M.toNat, by omega⟩
    rw [Int.toNat_natCast] at hp1
    have hMn : M ≤ n := by omega
    have HE := Lib.hid (h.setE e1)
    obtain ⟨X, hX, hXc⟩ := cut_l (P := Tryd.prog) Tryd.underlying23 infoB A n c M hMn h.cap
    obtain ⟨n2, hn2⟩ : ∃ n2, n - M = n2 := ⟨_, rfl⟩
    obtain ⟨c2, hc2⟩ : ∃ c2, c - M = c2 := ⟨_, rfl⟩
    have HB := HE.out.setB X M hMn hXc
    rw [hn2, hc2, hp1] at HB
    rw [hn2, hc2] at hX
    have e0 := HE.out.row.cell 0 _ rfl
    have f0 := HE.out.row.frozen 0
    have f1 := h.row.frozen 1
    have F3 := Lib.hid ((frp_cell w p 1 (.int .i64 e1)).trans (frp_cell _ p 0 (.slice X n2 c2)))
    have HLt : Hid (∀ a, X = some a → a.block < B) := Lib.hid (fun a ha => by
      obtain ⟨a0, h1, h2⟩ := hXc.blk a ha
      rw [← h2]; exact hB a0 h1)
    replace HB := Lib.hid HB
    replace PG := Lib.hid PG
    clear hbd h hXc hp1 hp2 hp3
    replace hM := Lib.hid hM
    replace hn2 := Lib.hid hn2
    replace hc2 := Lib.hid hc2
    go_enter Tryd.func56, Tryd.ntmps56
    go_wp2_with fail
    refine PG.out.mono ?_
    rintro en w2 ⟨rfl, rfl⟩
    clear PG
    go_wp2_with fail
    go_ret
    exact ⟨rfl, ⟨_, _, _, HB.out, HLt.out⟩, F3.out⟩
  · rw [if_pos he] at hp
    injection hp with hp1 hp2
    injection hp2 with hp2 hp3
    subst hp1 hp2 hp3
    have d1 : (e != 0) = true := by rw [bne_iff_ne]; exact he
    have H := Lib.hid h
    clear h
    go_enter Tryd.func56, Tryd.ntmps56
    go_wp2_with fail
    go_ret
    exact ⟨rfl, ⟨_, _, _, H.out, hB⟩, Fr.refl _ _⟩

set_option maxRecDepth 100000 in
set_option maxHeartbeats 4000000 in
theorem value_any (h : Rdr w p A n c l e) (B : Nat) (hB : ∀ a, A = some a → a.block < B) (l' : List UInt8) (e1 : Int) (s : ByteArray) (hp : pval l e = (l', e1, s)) :
    Calls Tryd.prog 57 #[.pointer (some ⟨p, 0, none⟩)] w fun en w' => en = .returned (.string s) ∧ RdrB B w' p l' e1 ∧ Fr (fun k => k = p) w w' := by
  have TX := Lib.hid (text_any h B hB 7 (by omega) (by omega) (ptxt 7 l e).1 (ptxt 7 l e).2.1 (ptxt 7 l e).2.2 rfl)
  have hsz : (ptxt 7 l e).2.2.size ≤ 1000000 := by
    unfold ptxt
    split
    · exact Nat.zero_le _
    · have := (pgettext_bd 7 l (by omega) (by omega)).2.2
      have := h.len
      have := h.small
      simp only [ByteArray.size, List.size_toArray]; omega
  unfold pval at hp
  obtain ⟨l2, hl2⟩ : ∃ x, (ptxt 7 l e).1 = x := ⟨_, rfl⟩
  obtain ⟨e2, he2⟩ : ∃ x, (ptxt 7 l e).2.1 = x := ⟨_, rfl⟩
  obtain ⟨s2, hs2⟩ : ∃ x, (ptxt 7 l e).2.2 = x := ⟨_, rfl⟩
  have hw : ptxt 7 l e = (l2, e2, s2) := by rw [← hl2, ← he2, ← hs2]
  rw [hw] at hp TX hsz
  simp only at hp TX hsz
  replace hl2 := Lib.hid hl2
  replace he2 := Lib.hid he2
  replace hs2 := Lib.hid hs2
  replace hw := Lib.hid hw
  clear h
  obtain ⟨m, hm⟩ : ∃ m, s2.size = m := ⟨_, rfl⟩
  by_cases h0 : e2 = 0
  · subst h0
    rw [if_neg (by simp)] at hp
    by_cases h400 : 400 < s2.size
    · rw [if_pos h400] at hp
      injection hp with hp1 hp2
      injection hp2 with hp2 hp3
      subst hp1 hp2 hp3
      rw [hm] at h400
      have d1 : decide (400 < m) = true := decide_eq_true h400
      have d1' : decide ((400 : Int) < (m : Int)) = true := decide_eq_true (by omega)
      go_enter Tryd.func57, Tryd.ntmps57
      go_wp2_with fail
      refine TX.out.mono ?_
      rintro en w2 ⟨rfl, ⟨A2, n2, c2, H2, L2⟩, F2⟩
      have x1 := H2.row.cell 1 _ rfl
      replace L2 := Lib.hid L2
      have f1 := H2.row.frozen 1
      have HE := Lib.hid (H2.setE 4)
      have F3 := Lib.hid (F2.trans (frp_cell w2 p 1 (.int .i64 4)))
      clear TX H2 F2
      go_wp2_with fail
      go_ret
      exact ⟨rfl, ⟨_, _, _, HE.out, L2.out⟩, F3.out⟩
    · rw [if_neg h400] at hp
      rw [hm] at h400
      have d1 : decide (400 < m) = false := decide_eq_false h400
      have d1' : decide ((400 : Int) < (m : Int)) = false := decide_eq_false (by omega)
      have PL := Lib.hid (fun W => plain_any s2 W (by omega))
      obtain ⟨V, hV⟩ : ∃ V, valok s2 = V := ⟨_, rfl⟩
      rw [hV] at hp PL
      replace hV := Lib.hid hV
      cases V
      · rw [if_neg (by simp)] at hp
        injection hp with hp1 hp2
        injection hp2 with hp2 hp3
        subst hp1 hp2 hp3
        go_enter Tryd.func57, Tryd.ntmps57
        go_wp2_with fail
        refine TX.out.mono ?_
        rintro en w2 ⟨rfl, ⟨A2, n2, c2, H2, L2⟩, F2⟩
        have x1 := H2.row.cell 1 _ rfl
        replace L2 := Lib.hid L2
        have f1 := H2.row.frozen 1
        have HE := Lib.hid (H2.setE 5)
        have F3 := Lib.hid (F2.trans (frp_cell w2 p 1 (.int .i64 5)))
        clear TX H2 F2
        go_wp2_with fail
        refine (PL.out _).mono ?_
        rintro en w3 ⟨rfl, rfl⟩
        go_wp2_with fail
        go_ret
        exact ⟨rfl, ⟨_, _, _, HE.out, L2.out⟩, F3.out⟩
      · rw [if_pos rfl] at hp
        injection hp with hp1 hp2
        injection hp2 with hp2 hp3
        subst hp1 hp2 hp3
        go_enter Tryd.func57, Tryd.ntmps57
        go_wp2_with fail
        refine TX.out.mono ?_
        rintro en w2 ⟨rfl, ⟨A2, n2, c2, H2, L2⟩, F2⟩
        have x1 := H2.row.cell 1 _ rfl
        replace L2 := Lib.hid L2
        replace H2 := Lib.hid H2
        replace F2 := Lib.hid F2
        clear TX
        go_wp2_with fail
        refine (PL.out _).mono ?_
        rintro en w3 ⟨rfl, rfl⟩
        go_wp2_with fail
        go_ret
        exact ⟨rfl, ⟨_, _, _, H2.out, L2.out⟩, F2.out⟩
  · rw [if_pos h0] at hp
    injection hp with hp1 hp2
    injection hp2 with hp2 hp3
    subst hp1 hp2 hp3
    have d1 : (e2 != 0) = true := by rw [bne_iff_ne]; exact h0
    go_enter Tryd.func57, Tryd.ntmps57
    go_wp2_with fail
    refine TX.out.mono ?_
    rintro en w2 ⟨rfl, ⟨A2, n2, c2, H2, L2⟩, F2⟩
    have x1 := H2.row.cell 1 _ rfl
    replace L2 := Lib.hid L2
    replace H2 := Lib.hid H2
    replace F2 := Lib.hid F2
    clear TX
    go_wp2_with fail
    go_ret
    exact ⟨rfl, ⟨_, _, _, H2.out, L2.out⟩, F2.out⟩
end
end Go.Proofs.YtdldipkbknhhoaaDoor

/- fields: the reader: line. -/
namespace Go.Proofs.YtdldipkbknhhoaaDoor
open Go.RowKit

def pln : List UInt8 → List UInt8 × Int × Fd
  | [] => ([], 5, fdz)
  | x :: r =>
    if x.toNat / 64 = 3 then pnum 6 (x :: r)
    else if x.toNat / 16 = 5 then ((pval (pnum 4 (x :: r)).1 (pnum 4 (x :: r)).2.1).1, (pval (pnum 4 (x :: r)).1 (pnum 4 (x :: r)).2.1).2.1, ⟨(pnum 4 (x :: r)).2.2.name, (pval (pnum 4 (x :: r)).1 (pnum 4 (x :: r)).2.1).2.2⟩)
    else if x.toNat / 16 = 2 then
      ((pval (ptxt 3 (x :: r) 0).1 (if (ptxt 3 (x :: r) 0).2.1 = 0 ∧ nameok (ptxt 3 (x :: r) 0).2.2 = false then 5 else (ptxt 3 (x :: r) 0).2.1)).1,
       (pval (ptxt 3 (x :: r) 0).1 (if (ptxt 3 (x :: r) 0).2.1 = 0 ∧ nameok (ptxt 3 (x :: r) 0).2.2 = false then 5 else (ptxt 3 (x :: r) 0).2.1)).2.1,
       ⟨(ptxt 3 (x :: r) 0).2.2, (pval (ptxt 3 (x :: r) 0).1 (if (ptxt 3 (x :: r) 0).2.1 = 0 ∧ nameok (ptxt 3 (x :: r) 0).2.2 = false then 5 else (ptxt 3 (x :: r) 0).2.1)).2.2⟩)
    else ((pval (x :: r) 5).1, (pval (x :: r) 5).2.1, ⟨⟨#[]⟩, (pval (x :: r) 5).2.2⟩)

theorem fld0 (a b : ByteArray) (w : World) : (Instr.field 47 (.agg #[.string a, .string b]) 0).run Tryd.prog w = .ok (.string a) w := rfl
section
variable {w w' : World} {p : Nat} {A : Option Addr} {n c : Nat} {r : List UInt8} {x : UInt8}
set_option maxRecDepth 100000 in
set_option maxHeartbeats 8000000 in
theorem line2_any (h : Rdr w p A n c (x :: r) 0) (B : Nat) (hB : ∀ a, A = some a → a.block < B) (l' : List UInt8) (e1 : Int) (fa fb : ByteArray) (hp : pln (x :: r) = (l', e1, ⟨fa, fb⟩)) :
    Calls Tryd.prog 41 #[.pointer (some ⟨p, 0, none⟩)] w fun en w' => en = .returned (.agg #[.string fa, .string fb]) ∧ RdrB B w' p l' e1 ∧ Fr (fun k => k = p) w w' := by
  have hplt := h.row.lt
  have B1 := (Below.refl _ w).alloc (Nat.le_refl _) (.cells #[.string ⟨#[]⟩, .string ⟨#[]⟩] 47)
  have B2 := B1.alloc B1.size (.cells #[.string ⟨#[]⟩, .string ⟨#[]⟩] 47)
  have R1 := (HasRow.new w 47 #[.string ⟨#[]⟩, .string ⟨#[]⟩]).alloc (.cells #[.string ⟨#[]⟩, .string ⟨#[]⟩] 47)
  have R2 := HasRow.new (w.alloc (.cells #[.string ⟨#[]⟩, .string ⟨#[]⟩] 47)) 47 #[.string ⟨#[]⟩, .string ⟨#[]⟩]
  rw [World.size_alloc] at R2
  obtain ⟨W1, hW1⟩ : ∃ W1, (w.alloc (.cells #[.string ⟨#[]⟩, .string ⟨#[]⟩] 47)).alloc (.cells #[.string ⟨#[]⟩, .string ⟨#[]⟩] 47) = W1 := ⟨_, rfl⟩
  rw [hW1] at B2 R1 R2
  obtain ⟨g, hg⟩ : ∃ g, w.heap.size = g := ⟨_, rfl⟩
  rw [hg] at R1 R2
  have hpg : p ≠ g := by omega
  have hpg1 : p ≠ g + 1 := by omega
  have H1 := h.below B2
  have HFar : Hid (∀ a, A = some a → a.block < min B g) := Lib.hid (fun a ha => by have := h.lt a ha; have := hB a ha; omega)
  have h0 := Lib.hid (⟨h.row.cell 1 _ rfl, fun o1 o2 => ((h.row.alloc o1).alloc o2).frozen 1⟩ : w.cell? ⟨p, 1, none⟩ = _ ∧ ∀ o1 o2, ((w.alloc o1).alloc o2).frozen? ⟨p, 1, none⟩ = false)
  have x0a := fun o1 o2 => Lib.cell?_alloc_some o2 (Lib.cell?_alloc_some o1 (h.row.cell 0 _ rfl))
  obtain ⟨b, off, rfl, hcell⟩ := h.rd.at_ (k := 0) (by simp)
  simp only [bv, List.map_cons, List.getElem_cons_zero, Nat.add_zero] at hcell
  have hn0 := h.len
  simp only [List.length_cons] at hn0
  have hn1 : 0 < n := by omega
  have ha := fun o1 o2 => Lib.cell?_alloc_some o2 (Lib.cell?_alloc_some o1 hcell)
  obtain ⟨X, hX⟩ : ∃ X, x.toNat = X := ⟨_, rfl⟩
  rw [hX] at ha
  have hX256 : X < 256 := by rw [← hX]; exact x.toNat_lt
  replace H1 := Lib.hid H1
  replace hW1 := Lib.hid hW1
  replace B2 := Lib.hid B2
  replace R1 := Lib.hid R1
  replace R2 := Lib.hid R2
  clear h B1 hcell hn0
  rw [pln, hX] at hp
  replace hX := Lib.hid hX
  replace hg := Lib.hid hg
  go_enter Tryd.func41, Tryd.ntmps41
  by_cases c1 : X / 64 = 3
  · rw [if_pos c1] at hp
    go_wp2_with fail
    rw [hW1.out, hg.out]
    refine (number_any H1.out (min B g) HFar.out 6 (by omega) (by omega) l' e1 fa fb hp).mono ?_
    rintro en w2 ⟨rfl, ⟨A2, n2, c2, H2, L2⟩, F2⟩
    have Rv1 := R1.out.fr F2 (fun e => hpg e.symm)
    have y0 := Rv1.cell 0 _ rfl
    have y1 := Rv1.cell 1 _ rfl
    have y2 := Rv1.frozen 0
    have y3 := Rv1.frozen 1
    have HO := Lib.hid (rdr_out H2 Rv1 hpg (fun a ha e => by have := L2 a ha; omega) ((Fr.of_below B2.out (fun k => k = p)).trans F2) (by rw [hg.out]; exact Nat.le_refl _) (.string fa) (.string fb))
    have L9 : Hid (∀ a, A2 = some a → a.block < B) := Lib.hid (fun a ha => by have := L2 a ha; omega)
    clear H2 L2 F2 Rv1
    go_wp2_with fail
    refine bodyPost_ret (v := .agg #[.string fa, .string fb]) (res1 rfl _ _ ⟨g, 0, none⟩ _ rfl (loadF HO.out.1)) rfl ?_
    exact ⟨rfl, ⟨_, _, _, HO.out.2.1, L9.out⟩, HO.out.2.2⟩
  · rw [if_neg c1] at hp
    have hfld := fld0
    by_cases c2 : X / 16 = 5
    · rw [if_pos c2] at hp
      obtain ⟨⟨l2, e2, na, nb⟩, hq⟩ : ∃ q, pnum 4 (x :: r) = q := ⟨_, rfl⟩
      rw [hq] at hp
      simp only at hp
      obtain ⟨⟨l3, e3, s3⟩, hv⟩ : ∃ q, pval l2 e2 = q := ⟨_, rfl⟩
      rw [hv] at hp
      simp only [Prod.mk.injEq, Fd.mk.injEq] at hp
      obtain ⟨rfl, rfl, rfl, rfl⟩ := hp
      replace hv := Lib.hid hv
      replace hq := Lib.hid hq
      go_wp2_with fail
      rw [hW1.out, hg.out]
      refine (number_any H1.out (min B g) HFar.out 4 (by omega) (by omega) l2 e2 na nb hq.out).mono ?_
      rintro en w2 ⟨rfl, ⟨A2, n2, c2, H2, L2⟩, F2⟩
      have Rv1 := R1.out.fr F2 (fun e => hpg e.symm)
      have Rv2 := R2.out.fr F2 (fun e => hpg1 e.symm)
      have z1 := Rv2.cell 0 _ rfl
      have z2 := Rv2.frozen 0
      have Hq := Lib.hid (H2.fr (frp_cell w2 (g + 1) 0 (.string na)) (fun e => hpg1 e) (fun a ha e => by have := L2 a ha; omega))
      have Lq := Lib.hid L2
      have Rq1 := Lib.hid (Rv1.other (B' := g + 1) (by omega) 0 (.string na))
      have Rq2 : Hid (HasRow (w2.setCell ⟨g + 1, 0, none⟩ (.string na)) (g + 1) 47 #[.string na, .string ⟨#[]⟩]) := Lib.hid (heap_setCell_same w2 (g + 1) 0 _ _ (.string na) Rv2)
      have Fq := Lib.hid (((Fr.of_below B2.out (fun k => k = p)).trans F2).setCell (p := ⟨g + 1, 0, none⟩) (fun h => absurd h (by simp only; have := hg.out; omega)) (.string na))
      clear H2 L2 F2 Rv1 Rv2
      go_wp2_with fail
      refine (value_any Hq.out (min B g) Lq.out _ _ _ hv.out).mono ?_
      rintro en wv ⟨rfl, ⟨Av, nv, cv, Hv, Lv⟩, Fv⟩
      have Rv1 := Rq1.out.fr Fv (fun e => hpg e.symm)
      have Rv2 := Rq2.out.fr Fv (fun e => hpg1 e.symm)
      have FV := Fq.out.trans Fv
      have z1 := Rv2.cell 1 _ rfl
      have z2 := Rv2.frozen 1
      have y0 := Rv1.cell 0 _ rfl
      have y1 := Rv1.cell 1 _ rfl
      have y2 := Rv1.frozen 0
      have y3 := Rv1.frozen 1
      have Rx : HasRow (wv.setCell ⟨g + 1, 1, none⟩ (.string s3)) (g + 1) 47 #[.string na, .string s3] := heap_setCell_same wv (g + 1) 1 _ _ (.string s3) Rv2
      have HO := Lib.hid (rdr_out (Hv.fr (frp_cell wv (g + 1) 1 (.string s3)) (fun e => hpg1 e) (fun a ha e => by have := Lv a ha; omega)) (Rv1.other (B' := g + 1) (by omega) 1 (.string s3)) hpg (fun a ha e => by have := Lv a ha; omega) (FV.setCell (p := ⟨g + 1, 1, none⟩) (fun h => absurd h (by simp only; have := hg.out; omega)) (.string s3)) (by rw [hg.out]; exact Nat.le_refl _) (.string na) (.string s3))
      have L9 : Hid (∀ a, Av = some a → a.block < B) := Lib.hid (fun a ha => by have := Lv a ha; omega)
      have x8 := Rx.cell 0 _ rfl
      have x9 := Rx.cell 1 _ rfl
      clear Hv Lv Fv Rv1 Rv2 FV Rx
      go_wp2_with fail
      refine bodyPost_ret (v := .agg #[.string na, .string s3]) (res1 rfl _ _ ⟨g, 0, none⟩ _ rfl (loadF HO.out.1)) rfl ?_
      exact ⟨rfl, ⟨_, _, _, HO.out.2.1, L9.out⟩, HO.out.2.2⟩
    · rw [if_neg c2] at hp
      by_cases c3 : X / 16 = 2
      · rw [if_pos c3] at hp
        obtain ⟨⟨l2, e2, na⟩, hq⟩ : ∃ q, ptxt 3 (x :: r) 0 = q := ⟨_, rfl⟩
        rw [hq] at hp
        simp only at hp
        have hna : na.size ≤ 1000000 := by
          have h1 := (pgettext_bd 3 (x :: r) (by omega) (by omega)).2.2
          have h2 := H1.out.len
          have h3 := H1.out.small
          unfold ptxt at hq
          rw [if_neg (by simp)] at hq
          simp only [Prod.mk.injEq] at hq
          rw [← hq.2.2]
          simp only [ByteArray.size, List.size_toArray]; omega
        have TX := Lib.hid (text_any H1.out (min B g) HFar.out 3 (by omega) (by omega) l2 e2 na hq)
        replace hq := Lib.hid hq
        have NM := Lib.hid (fun W => name_any na W hna)
        obtain ⟨V, hV⟩ : ∃ V, nameok na = V := ⟨_, rfl⟩
        rw [hV] at hp NM
        replace hV := Lib.hid hV
        by_cases he2 : e2 = 0
        · subst he2
          cases V
          · rw [if_pos ⟨rfl, rfl⟩] at hp
            obtain ⟨⟨l3, e3, s3⟩, hv⟩ : ∃ q, pval l2 5 = q := ⟨_, rfl⟩
            rw [hv] at hp
            simp only [Prod.mk.injEq, Fd.mk.injEq] at hp
            obtain ⟨rfl, rfl, rfl, rfl⟩ := hp
            replace hv := Lib.hid hv
            go_wp2_with fail
            rw [hW1.out, hg.out]
            refine TX.out.mono ?_
            rintro en w2 ⟨rfl, ⟨A2, n2, c2, H2, L2⟩, F2⟩
            have Rv1 := R1.out.fr F2 (fun e => hpg e.symm)
            have Rv2 := R2.out.fr F2 (fun e => hpg1 e.symm)
            have z1 := Rv2.cell 0 _ rfl
            have z2 := Rv2.frozen 0
            have H3 := H2.fr (frp_cell w2 (g + 1) 0 (.string na)) (fun e => hpg1 e) (fun a ha e => by have := L2 a ha; omega)
            have Rq3 : HasRow (w2.setCell ⟨g + 1, 0, none⟩ (.string na)) (g + 1) 47 #[.string na, .string ⟨#[]⟩] := heap_setCell_same w2 (g + 1) 0 _ _ (.string na) Rv2
            have k1 := H3.row.cell 1 _ rfl
            have k2 := H3.row.frozen 1
            have k3 := Rq3.cell 0 _ rfl
            have Hq := Lib.hid (H3.setE 5)
            have Lq := Lib.hid L2
            have Rq1 := Lib.hid ((Rv1.other (B' := g + 1) (by omega) 0 (.string na)).other (B' := p) (fun e => hpg e.symm) 1 (.int .i64 5))
            have Rq2 := Lib.hid (Rq3.other (B' := p) (fun e => hpg1 e.symm) 1 (.int .i64 5))
            have Fq := Lib.hid ((((Fr.of_below B2.out (fun k => k = p)).trans F2).setCell (p := ⟨g + 1, 0, none⟩) (fun h => absurd h (by simp only; have := hg.out; omega)) (.string na)).trans (frp_cell _ p 1 (.int .i64 5)))
            clear H2 L2 F2 Rv1 Rv2 H3 Rq3
            go_wp2_with fail
            refine (NM.out _).mono ?_
            rintro en w3 ⟨rfl, rfl⟩
            go_wp2_with fail
            refine (value_any Hq.out (min B g) Lq.out _ _ _ hv.out).mono ?_
            rintro en wv ⟨rfl, ⟨Av, nv, cv, Hv, Lv⟩, Fv⟩
            have Rv1 := Rq1.out.fr Fv (fun e => hpg e.symm)
            have Rv2 := Rq2.out.fr Fv (fun e => hpg1 e.symm)
            have FV := Fq.out.trans Fv
            have z1 := Rv2.cell 1 _ rfl
            have z2 := Rv2.frozen 1
            have y0 := Rv1.cell 0 _ rfl
            have y1 := Rv1.cell 1 _ rfl
            have y2 := Rv1.frozen 0
            have y3 := Rv1.frozen 1
            have Rx : HasRow (wv.setCell ⟨g + 1, 1, none⟩ (.string s3)) (g + 1) 47 #[.string na, .string s3] := heap_setCell_same wv (g + 1) 1 _ _ (.string s3) Rv2
            have HO := Lib.hid (rdr_out (Hv.fr (frp_cell wv (g + 1) 1 (.string s3)) (fun e => hpg1 e) (fun a ha e => by have := Lv a ha; omega)) (Rv1.other (B' := g + 1) (by omega) 1 (.string s3)) hpg (fun a ha e => by have := Lv a ha; omega) (FV.setCell (p := ⟨g + 1, 1, none⟩) (fun h => absurd h (by simp only; have := hg.out; omega)) (.string s3)) (by rw [hg.out]; exact Nat.le_refl _) (.string na) (.string s3))
            have L9 : Hid (∀ a, Av = some a → a.block < B) := Lib.hid (fun a ha => by have := Lv a ha; omega)
            have x8 := Rx.cell 0 _ rfl
            have x9 := Rx.cell 1 _ rfl
            clear Hv Lv Fv Rv1 Rv2 FV Rx
            go_wp2_with fail
            refine bodyPost_ret (v := .agg #[.string na, .string s3]) (res1 rfl _ _ ⟨g, 0, none⟩ _ rfl (loadF HO.out.1)) rfl ?_
            exact ⟨rfl, ⟨_, _, _, HO.out.2.1, L9.out⟩, HO.out.2.2⟩
          · rw [if_neg (by simp)] at hp
            obtain ⟨⟨l3, e3, s3⟩, hv⟩ : ∃ q, pval l2 0 = q := ⟨_, rfl⟩
            rw [hv] at hp
            simp only [Prod.mk.injEq, Fd.mk.injEq] at hp
            obtain ⟨rfl, rfl, rfl, rfl⟩ := hp
            replace hv := Lib.hid hv
            go_wp2_with fail
            rw [hW1.out, hg.out]
            refine TX.out.mono ?_
            rintro en w2 ⟨rfl, ⟨A2, n2, c2, H2, L2⟩, F2⟩
            have Rv1 := R1.out.fr F2 (fun e => hpg e.symm)
            have Rv2 := R2.out.fr F2 (fun e => hpg1 e.symm)
            have z1 := Rv2.cell 0 _ rfl
            have z2 := Rv2.frozen 0
            have Hq := Lib.hid (H2.fr (frp_cell w2 (g + 1) 0 (.string na)) (fun e => hpg1 e) (fun a ha e => by have := L2 a ha; omega))
            have k1 := Hq.out.row.cell 1 _ rfl
            have Lq := Lib.hid L2
            have Rq1 := Lib.hid (Rv1.other (B' := g + 1) (by omega) 0 (.string na))
            have Rq2 : Hid (HasRow (w2.setCell ⟨g + 1, 0, none⟩ (.string na)) (g + 1) 47 #[.string na, .string ⟨#[]⟩]) := Lib.hid (heap_setCell_same w2 (g + 1) 0 _ _ (.string na) Rv2)
            have k3 := Rq2.out.cell 0 _ rfl
            have Fq := Lib.hid (((Fr.of_below B2.out (fun k => k = p)).trans F2).setCell (p := ⟨g + 1, 0, none⟩) (fun h => absurd h (by simp only; have := hg.out; omega)) (.string na))
            clear H2 L2 F2 Rv1 Rv2
            go_wp2_with fail
            refine (NM.out _).mono ?_
            rintro en w3 ⟨rfl, rfl⟩
            go_wp2_with fail
            refine (value_any Hq.out (min B g) Lq.out _ _ _ hv.out).mono ?_
            rintro en wv ⟨rfl, ⟨Av, nv, cv, Hv, Lv⟩, Fv⟩
            have Rv1 := Rq1.out.fr Fv (fun e => hpg e.symm)
            have Rv2 := Rq2.out.fr Fv (fun e => hpg1 e.symm)
            have FV := Fq.out.trans Fv
            have z1 := Rv2.cell 1 _ rfl
            have z2 := Rv2.frozen 1
            have y0 := Rv1.cell 0 _ rfl
            have y1 := Rv1.cell 1 _ rfl
            have y2 := Rv1.frozen 0
            have y3 := Rv1.frozen 1
            have Rx : HasRow (wv.setCell ⟨g + 1, 1, none⟩ (.string s3)) (g + 1) 47 #[.string na, .string s3] := heap_setCell_same wv (g + 1) 1 _ _ (.string s3) Rv2
            have HO := Lib.hid (rdr_out (Hv.fr (frp_cell wv (g + 1) 1 (.string s3)) (fun e => hpg1 e) (fun a ha e => by have := Lv a ha; omega)) (Rv1.other (B' := g + 1) (by omega) 1 (.string s3)) hpg (fun a ha e => by have := Lv a ha; omega) (FV.setCell (p := ⟨g + 1, 1, none⟩) (fun h => absurd h (by simp only; have := hg.out; omega)) (.string s3)) (by rw [hg.out]; exact Nat.le_refl _) (.string na) (.string s3))
            have L9 : Hid (∀ a, Av = some a → a.block < B) := Lib.hid (fun a ha => by have := Lv a ha; omega)
            have x8 := Rx.cell 0 _ rfl
            have x9 := Rx.cell 1 _ rfl
            clear Hv Lv Fv Rv1 Rv2 FV Rx
            go_wp2_with fail
            refine bodyPost_ret (v := .agg #[.string na, .string s3]) (res1 rfl _ _ ⟨g, 0, none⟩ _ rfl (loadF HO.out.1)) rfl ?_
            exact ⟨rfl, ⟨_, _, _, HO.out.2.1, L9.out⟩, HO.out.2.2⟩
        · rw [if_neg (fun h => he2 h.1)] at hp
          obtain ⟨⟨l3, e3, s3⟩, hv⟩ : ∃ q, pval l2 e2 = q := ⟨_, rfl⟩
          rw [hv] at hp
          simp only [Prod.mk.injEq, Fd.mk.injEq] at hp
          obtain ⟨rfl, rfl, rfl, rfl⟩ := hp
          replace hv := Lib.hid hv
          have d1 : (e2 == 0) = false := by rw [beq_eq_false_iff_ne]; exact he2
          go_wp2_with fail
          rw [hW1.out, hg.out]
          refine TX.out.mono ?_
          rintro en w2 ⟨rfl, ⟨A2, n2, c2, H2, L2⟩, F2⟩
          have Rv1 := R1.out.fr F2 (fun e => hpg e.symm)
          have Rv2 := R2.out.fr F2 (fun e => hpg1 e.symm)
          have z1 := Rv2.cell 0 _ rfl
          have z2 := Rv2.frozen 0
          have Hq := Lib.hid (H2.fr (frp_cell w2 (g + 1) 0 (.string na)) (fun e => hpg1 e) (fun a ha e => by have := L2 a ha; omega))
          have k1 := Hq.out.row.cell 1 _ rfl
          have Lq := Lib.hid L2
          have Rq1 := Lib.hid (Rv1.other (B' := g + 1) (by omega) 0 (.string na))
          have Rq2 : Hid (HasRow (w2.setCell ⟨g + 1, 0, none⟩ (.string na)) (g + 1) 47 #[.string na, .string ⟨#[]⟩]) := Lib.hid (heap_setCell_same w2 (g + 1) 0 _ _ (.string na) Rv2)
          have Fq := Lib.hid (((Fr.of_below B2.out (fun k => k = p)).trans F2).setCell (p := ⟨g + 1, 0, none⟩) (fun h => absurd h (by simp only; have := hg.out; omega)) (.string na))
          clear H2 L2 F2 Rv1 Rv2
          go_wp2_with fail
          refine (value_any Hq.out (min B g) Lq.out _ _ _ hv.out).mono ?_
          rintro en wv ⟨rfl, ⟨Av, nv, cv, Hv, Lv⟩, Fv⟩
          have Rv1 := Rq1.out.fr Fv (fun e => hpg e.symm)
          have Rv2 := Rq2.out.fr Fv (fun e => hpg1 e.symm)
          have FV := Fq.out.trans Fv
          have z1 := Rv2.cell 1 _ rfl
          have z2 := Rv2.frozen 1
          have y0 := Rv1.cell 0 _ rfl
          have y1 := Rv1.cell 1 _ rfl
          have y2 := Rv1.frozen 0
          have y3 := Rv1.frozen 1
          have Rx : HasRow (wv.setCell ⟨g + 1, 1, none⟩ (.string s3)) (g + 1) 47 #[.string na, .string s3] := heap_setCell_same wv (g + 1) 1 _ _ (.string s3) Rv2
          have HO := Lib.hid (rdr_out (Hv.fr (frp_cell wv (g + 1) 1 (.string s3)) (fun e => hpg1 e) (fun a ha e => by have := Lv a ha; omega)) (Rv1.other (B' := g + 1) (by omega) 1 (.string s3)) hpg (fun a ha e => by have := Lv a ha; omega) (FV.setCell (p := ⟨g + 1, 1, none⟩) (fun h => absurd h (by simp only; have := hg.out; omega)) (.string s3)) (by rw [hg.out]; exact Nat.le_refl _) (.string na) (.string s3))
          have L9 : Hid (∀ a, Av = some a → a.block < B) := Lib.hid (fun a ha => by have := Lv a ha; omega)
          have x8 := Rx.cell 0 _ rfl
          have x9 := Rx.cell 1 _ rfl
          clear Hv Lv Fv Rv1 Rv2 FV Rx
          go_wp2_with fail
          refine bodyPost_ret (v := .agg #[.string na, .string s3]) (res1 rfl _ _ ⟨g, 0, none⟩ _ rfl (loadF HO.out.1)) rfl ?_
          exact ⟨rfl, ⟨_, _, _, HO.out.2.1, L9.out⟩, HO.out.2.2⟩
      · rw [if_neg c3] at hp
        obtain ⟨⟨l3, e3, s3⟩, hv⟩ : ∃ q, pval (x :: r) 5 = q := ⟨_, rfl⟩
        rw [hv] at hp
        simp only [Prod.mk.injEq, Fd.mk.injEq] at hp
        obtain ⟨rfl, rfl, rfl, rfl⟩ := hp
        replace hv := Lib.hid hv
        have x1a := fun o1 o2 => Lib.cell?_alloc_some o2 (Lib.cell?_alloc_some o1 h0.out.1)
        have x1f := h0.out.2
        have Hq := Lib.hid (H1.out.setE 5)
        have Lq := HFar
        have Rq1 := Lib.hid (R1.out.other (B' := p) (fun e => hpg e.symm) 1 (.int .i64 5))
        have Rq2 := Lib.hid (R2.out.other (B' := p) (fun e => hpg1 e.symm) 1 (.int .i64 5))
        have Fq := Lib.hid ((Fr.of_below B2.out (fun k => k = p)).trans (frp_cell W1 p 1 (.int .i64 5)))
        go_wp2_with fail
        rw [← World.setCell_alloc_past _ p 1 _ hplt, ← World.setCell_alloc_past _ p 1 _ (by rw [World.size_alloc]; omega), hW1.out, hg.out]
        refine (value_any Hq.out (min B g) Lq.out _ _ _ hv.out).mono ?_
        rintro en wv ⟨rfl, ⟨Av, nv, cv, Hv, Lv⟩, Fv⟩
        have Rv1 := Rq1.out.fr Fv (fun e => hpg e.symm)
        have Rv2 := Rq2.out.fr Fv (fun e => hpg1 e.symm)
        have FV := Fq.out.trans Fv
        have z1 := Rv2.cell 1 _ rfl
        have z2 := Rv2.frozen 1
        have y0 := Rv1.cell 0 _ rfl
        have y1 := Rv1.cell 1 _ rfl
        have y2 := Rv1.frozen 0
        have y3 := Rv1.frozen 1
        have Rx : HasRow (wv.setCell ⟨g + 1, 1, none⟩ (.string s3)) (g + 1) 47 #[.string ⟨#[]⟩, .string s3] := heap_setCell_same wv (g + 1) 1 _ _ (.string s3) Rv2
        have HO := Lib.hid (rdr_out (Hv.fr (frp_cell wv (g + 1) 1 (.string s3)) (fun e => hpg1 e) (fun a ha e => by have := Lv a ha; omega)) (Rv1.other (B' := g + 1) (by omega) 1 (.string s3)) hpg (fun a ha e => by have := Lv a ha; omega) (FV.setCell (p := ⟨g + 1, 1, none⟩) (fun h => absurd h (by simp only; have := hg.out; omega)) (.string s3)) (by rw [hg.out]; exact Nat.le_refl _) (.string ⟨#[]⟩) (.string s3))
        have L9 : Hid (∀ a, Av = some a → a.block < B) := Lib.hid (fun a ha => by have := Lv a ha; omega)
        have x8 := Rx.cell 0 _ rfl
        have x9 := Rx.cell 1 _ rfl
        clear Hv Lv Fv Rv1 Rv2 FV Rx
        go_wp2_with fail
        refine bodyPost_ret (v := .agg #[.string ⟨#[]⟩, .string s3]) (res1 rfl _ _ ⟨g, 0, none⟩ _ rfl (loadF HO.out.1)) rfl ?_
        exact ⟨rfl, ⟨_, _, _, HO.out.2.1, L9.out⟩, HO.out.2.2⟩
end
end Go.Proofs.YtdldipkbknhhoaaDoor

/- The document's fields: value, Name. (Printed by gen_fsA.py.) -/
namespace Go.Proofs.YtdldipkbknhhoaaDoor
open Go.RowKit

set_option maxRecDepth 100000 in
set_option maxHeartbeats 2000000 in
theorem rval_any (s : ByteArray) (w : World) (hs : s.size ≤ 1000000) :
    Calls Tryd.prog 44 #[.string s] w fun e w' => e = .returned (.bool (valok s)) ∧ w = w' := by
  obtain ⟨n, hn⟩ : ∃ n, s.size = n := ⟨_, rfl⟩
  go_enter Tryd.func44, Tryd.ntmps44
  go_wp2
  go_loopw [3] (fun i wr => ∃ k : Nat, k ≤ n ∧ i = .int .i64 k ∧ wr = w ∧ Hid ((List.range k).all (fun k => vchar (s.data.toList.getD k 0).toNat) = true)) (fun i _ => n - (intOf i).toNat)
  case atStart => exact ⟨0, by omega, rfl, rfl, Lib.hid rfl⟩
  case round =>
    obtain ⟨k, hk, rfl, rfl, HA⟩ := hrel
    by_cases hkn : k < n
    · have hks : k < s.size := by omega
      obtain ⟨c, hc⟩ : ∃ c, (s[k]'hks).toNat = c := ⟨_, rfl⟩
      have hcl : (s.data.toList.getD k 0).toNat = c := by rw [← hc]; exact chr_at s k hks
      have h3 : c < 32 ∨ (¬ c < 32 ∧ 126 < c) ∨ (¬ c < 32 ∧ ¬ 126 < c) := by omega
      rcases h3 with h | ⟨h, h2⟩ | ⟨h, h2⟩
      · have d1 : decide ((c : Int) < 32) = true := decide_eq_true (by omega)
        have hno := Lib.hid (all_no (fun k => vchar (s.data.toList.getD k 0).toNat) n k hkn (by simp only [hcl]; unfold vchar; rw [decide_eq_false (by omega)]; rfl))
        replace hcl := Lib.hid hcl
        clear h
        go_wp2
        go_ret
        refine ⟨ret_bool ?_, rfl⟩
        unfold valok; rw [hn]; exact hno.out.symm
      · have d1 : decide ((c : Int) < 32) = false := decide_eq_false (by omega)
        have d2 : decide (126 < (c : Int)) = true := decide_eq_true (by omega)
        have hno := Lib.hid (all_no (fun k => vchar (s.data.toList.getD k 0).toNat) n k hkn (by simp only [hcl]; unfold vchar; rw [decide_eq_false (show ¬ c ≤ 126 by omega), Bool.and_false]))
        replace hcl := Lib.hid hcl
        clear h h2
        go_wp2
        go_ret
        refine ⟨ret_bool ?_, rfl⟩
        unfold valok; rw [hn]; exact hno.out.symm
      · have d1 : decide ((c : Int) < 32) = false := decide_eq_false (by omega)
        have d2 : decide (126 < (c : Int)) = false := decide_eq_false (by omega)
        have hyes : Hid ((List.range (k + 1)).all (fun k => vchar (s.data.toList.getD k 0).toNat) = true) := Lib.hid (by
          rw [all_snoc, HA.out, hcl]
          unfold vchar
          rw [decide_eq_true (by omega), decide_eq_true (by omega)]; rfl)
        replace hcl := Lib.hid hcl
        clear h h2 HA
        go_wp2
        go_roundw
        case rel => exact ⟨k + 1, by omega, by go_num, by first | rfl | trivial, hyes⟩
        case measure => simp [intOf]; omega
    · have hk' : k = n := by omega
      have HB : Hid (valok s = true) := Lib.hid (by unfold valok; rw [hn, ← hk']; exact HA.out)
      clear HA
      go_wp2
      go_ret
      exact ⟨ret_bool HB.out.symm, rfl⟩

set_option maxRecDepth 100000 in
set_option maxHeartbeats 4000000 in
theorem rname_any (s : ByteArray) (w : World) (hs : s.size ≤ 1000000) :
    Calls Tryd.prog 43 #[.string s] w fun e w' => e = .returned (.bool (nameok s)) ∧ w = w' := by
  obtain ⟨n, hn⟩ : ∃ n, s.size = n := ⟨_, rfl⟩
  go_enter Tryd.func43, Tryd.ntmps43
  go_wp2
  go_loopw [3] (fun i wr => ∃ k : Nat, k ≤ n ∧ i = .int .i64 k ∧ wr = w ∧ Hid ((List.range k).all (fun k => nchar n k (s.data.toList.getD k 0).toNat) = true)) (fun i _ => n - (intOf i).toNat)
  case atStart => exact ⟨0, by omega, rfl, rfl, Lib.hid rfl⟩
  case round =>
    obtain ⟨k, hk, rfl, rfl, HA⟩ := hrel
    by_cases hkn : k < n
    · have hks : k < s.size := by omega
      obtain ⟨c, hc⟩ : ∃ c, (s[k]'hks).toNat = c := ⟨_, rfl⟩
      have hcl : (s.data.toList.getD k 0).toNat = c := by rw [← hc]; exact chr_at s k hks
      have hcls : (c < 45) ∨ (c = 45) ∨ (45 < c ∧ c < 48) ∨ (48 ≤ c ∧ c ≤ 57) ∨ (c = 58 ∧ 0 < k) ∨ (c = 58 ∧ k = 0 ∧ n = 1) ∨ (c = 58 ∧ k = 0 ∧ n ≠ 1) ∨ (58 < c ∧ c < 97) ∨ (97 ≤ c ∧ c ≤ 122) ∨ (122 < c) := by omega
      rcases hcls with h | h | h | h | h | h | h | h | h | h
      · have d1 : decide (97 ≤ (c : Int)) = false := decide_eq_false (by omega)
        have d1' : decide (97 ≤ c) = false := decide_eq_false (by omega)
        have d2 : decide ((c : Int) ≤ 122) = true := decide_eq_true (by omega)
        have d2' : decide (c ≤ 122) = true := decide_eq_true (by omega)
        have d3 : decide (48 ≤ (c : Int)) = false := decide_eq_false (by omega)
        have d3' : decide (48 ≤ c) = false := decide_eq_false (by omega)
        have d4 : decide ((c : Int) ≤ 57) = true := decide_eq_true (by omega)
        have d4' : decide (c ≤ 57) = true := decide_eq_true (by omega)
        have d5 : ((c : Int) == 45) = false := by first | (rw [beq_iff_eq]; omega) | (rw [beq_eq_false_iff_ne]; omega)
        have d6 : ((c : Int) == 58) = false := by first | (rw [beq_iff_eq]; omega) | (rw [beq_eq_false_iff_ne]; omega)
        have hnc : nchar n k c = false := by unfold nchar; simp; omega
        have hno := Lib.hid (all_no (fun k => nchar n k (s.data.toList.getD k 0).toNat) n k hkn (by simp only [hcl]; exact hnc))
        replace hcl := Lib.hid hcl
        replace hnc := Lib.hid hnc
        clear h
        go_wp2
        go_ret
        refine ⟨ret_bool ?_, rfl⟩
        unfold nameok; rw [hn, hno.out]; rfl
      · have d1 : decide (97 ≤ (c : Int)) = false := decide_eq_false (by omega)
        have d1' : decide (97 ≤ c) = false := decide_eq_false (by omega)
        have d2 : decide ((c : Int) ≤ 122) = true := decide_eq_true (by omega)
        have d2' : decide (c ≤ 122) = true := decide_eq_true (by omega)
        have d3 : decide (48 ≤ (c : Int)) = false := decide_eq_false (by omega)
        have d3' : decide (48 ≤ c) = false := decide_eq_false (by omega)
        have d4 : decide ((c : Int) ≤ 57) = true := decide_eq_true (by omega)
        have d4' : decide (c ≤ 57) = true := decide_eq_true (by omega)
        have d5 : ((c : Int) == 45) = true := by first | (rw [beq_iff_eq]; omega) | (rw [beq_eq_false_iff_ne]; omega)
        have d6 : ((c : Int) == 58) = false := by first | (rw [beq_iff_eq]; omega) | (rw [beq_eq_false_iff_ne]; omega)
        have hnc : nchar n k c = true := by unfold nchar; simp; omega
        have hyes : Hid ((List.range (k + 1)).all (fun k => nchar n k (s.data.toList.getD k 0).toNat) = true) := Lib.hid (by rw [all_snoc, HA.out, hcl, hnc]; rfl)
        replace hcl := Lib.hid hcl
        replace hnc := Lib.hid hnc
        clear HA h
        go_wp2
        go_roundw
        case rel => exact ⟨k + 1, by omega, by go_num, by first | rfl | trivial, hyes⟩
        case measure => simp [intOf]; omega
      · have d1 : decide (97 ≤ (c : Int)) = false := decide_eq_false (by omega)
        have d1' : decide (97 ≤ c) = false := decide_eq_false (by omega)
        have d2 : decide ((c : Int) ≤ 122) = true := decide_eq_true (by omega)
        have d2' : decide (c ≤ 122) = true := decide_eq_true (by omega)
        have d3 : decide (48 ≤ (c : Int)) = false := decide_eq_false (by omega)
        have d3' : decide (48 ≤ c) = false := decide_eq_false (by omega)
        have d4 : decide ((c : Int) ≤ 57) = true := decide_eq_true (by omega)
        have d4' : decide (c ≤ 57) = true := decide_eq_true (by omega)
        have d5 : ((c : Int) == 45) = false := by first | (rw [beq_iff_eq]; omega) | (rw [beq_eq_false_iff_ne]; omega)
        have d6 : ((c : Int) == 58) = false := by first | (rw [beq_iff_eq]; omega) | (rw [beq_eq_false_iff_ne]; omega)
        have hnc : nchar n k c = false := by unfold nchar; simp; omega
        have hno := Lib.hid (all_no (fun k => nchar n k (s.data.toList.getD k 0).toNat) n k hkn (by simp only [hcl]; exact hnc))
        replace hcl := Lib.hid hcl
        replace hnc := Lib.hid hnc
        clear h
        go_wp2
        go_ret
        refine ⟨ret_bool ?_, rfl⟩
        unfold nameok; rw [hn, hno.out]; rfl
      · have d1 : decide (97 ≤ (c : Int)) = false := decide_eq_false (by omega)
        have d1' : decide (97 ≤ c) = false := decide_eq_false (by omega)
        have d2 : decide ((c : Int) ≤ 122) = true := decide_eq_true (by omega)
        have d2' : decide (c ≤ 122) = true := decide_eq_true (by omega)
        have d3 : decide (48 ≤ (c : Int)) = true := decide_eq_true (by omega)
        have d3' : decide (48 ≤ c) = true := decide_eq_true (by omega)
        have d4 : decide ((c : Int) ≤ 57) = true := decide_eq_true (by omega)
        have d4' : decide (c ≤ 57) = true := decide_eq_true (by omega)
        have d5 : ((c : Int) == 45) = false := by first | (rw [beq_iff_eq]; omega) | (rw [beq_eq_false_iff_ne]; omega)
        have d6 : ((c : Int) == 58) = false := by first | (rw [beq_iff_eq]; omega) | (rw [beq_eq_false_iff_ne]; omega)
        have hnc : nchar n k c = true := by unfold nchar; simp; omega
        have hyes : Hid ((List.range (k + 1)).all (fun k => nchar n k (s.data.toList.getD k 0).toNat) = true) := Lib.hid (by rw [all_snoc, HA.out, hcl, hnc]; rfl)
        replace hcl := Lib.hid hcl
        replace hnc := Lib.hid hnc
        clear HA h
        go_wp2
        go_roundw
        case rel => exact ⟨k + 1, by omega, by go_num, by first | rfl | trivial, hyes⟩
        case measure => simp [intOf]; omega
      · have d1 : decide (97 ≤ (c : Int)) = false := decide_eq_false (by omega)
        have d1' : decide (97 ≤ c) = false := decide_eq_false (by omega)
        have d2 : decide ((c : Int) ≤ 122) = true := decide_eq_true (by omega)
        have d2' : decide (c ≤ 122) = true := decide_eq_true (by omega)
        have d3 : decide (48 ≤ (c : Int)) = true := decide_eq_true (by omega)
        have d3' : decide (48 ≤ c) = true := decide_eq_true (by omega)
        have d4 : decide ((c : Int) ≤ 57) = false := decide_eq_false (by omega)
        have d4' : decide (c ≤ 57) = false := decide_eq_false (by omega)
        have d5 : ((c : Int) == 45) = false := by first | (rw [beq_iff_eq]; omega) | (rw [beq_eq_false_iff_ne]; omega)
        have d6 : ((c : Int) == 58) = true := by first | (rw [beq_iff_eq]; omega) | (rw [beq_eq_false_iff_ne]; omega)
        have d7 : ((k : Int) == 0) = false := by first | (rw [beq_iff_eq]; omega) | (rw [beq_eq_false_iff_ne]; omega)
        have hnc : nchar n k c = false := by unfold nchar; simp; omega
        have hno := Lib.hid (all_no (fun k => nchar n k (s.data.toList.getD k 0).toNat) n k hkn (by simp only [hcl]; exact hnc))
        replace hcl := Lib.hid hcl
        replace hnc := Lib.hid hnc
        clear h
        go_wp2
        go_ret
        refine ⟨ret_bool ?_, rfl⟩
        unfold nameok; rw [hn, hno.out]; rfl
      · have d1 : decide (97 ≤ (c : Int)) = false := decide_eq_false (by omega)
        have d1' : decide (97 ≤ c) = false := decide_eq_false (by omega)
        have d2 : decide ((c : Int) ≤ 122) = true := decide_eq_true (by omega)
        have d2' : decide (c ≤ 122) = true := decide_eq_true (by omega)
        have d3 : decide (48 ≤ (c : Int)) = true := decide_eq_true (by omega)
        have d3' : decide (48 ≤ c) = true := decide_eq_true (by omega)
        have d4 : decide ((c : Int) ≤ 57) = false := decide_eq_false (by omega)
        have d4' : decide (c ≤ 57) = false := decide_eq_false (by omega)
        have d5 : ((c : Int) == 45) = false := by first | (rw [beq_iff_eq]; omega) | (rw [beq_eq_false_iff_ne]; omega)
        have d6 : ((c : Int) == 58) = true := by first | (rw [beq_iff_eq]; omega) | (rw [beq_eq_false_iff_ne]; omega)
        have d7 : ((k : Int) == 0) = true := by first | (rw [beq_iff_eq]; omega) | (rw [beq_eq_false_iff_ne]; omega)
        have d8 : decide ((1 : Int) < (n : Int)) = false := decide_eq_false (by omega)
        have d8' : decide (1 < n) = false := decide_eq_false (by omega)
        have hnc : nchar n k c = false := by unfold nchar; simp; omega
        have hno := Lib.hid (all_no (fun k => nchar n k (s.data.toList.getD k 0).toNat) n k hkn (by simp only [hcl]; exact hnc))
        replace hcl := Lib.hid hcl
        replace hnc := Lib.hid hnc
        clear h
        go_wp2
        go_ret
        refine ⟨ret_bool ?_, rfl⟩
        unfold nameok; rw [hn, hno.out]; rfl
      · have d1 : decide (97 ≤ (c : Int)) = false := decide_eq_false (by omega)
        have d1' : decide (97 ≤ c) = false := decide_eq_false (by omega)
        have d2 : decide ((c : Int) ≤ 122) = true := decide_eq_true (by omega)
        have d2' : decide (c ≤ 122) = true := decide_eq_true (by omega)
        have d3 : decide (48 ≤ (c : Int)) = true := decide_eq_true (by omega)
        have d3' : decide (48 ≤ c) = true := decide_eq_true (by omega)
        have d4 : decide ((c : Int) ≤ 57) = false := decide_eq_false (by omega)
        have d4' : decide (c ≤ 57) = false := decide_eq_false (by omega)
        have d5 : ((c : Int) == 45) = false := by first | (rw [beq_iff_eq]; omega) | (rw [beq_eq_false_iff_ne]; omega)
        have d6 : ((c : Int) == 58) = true := by first | (rw [beq_iff_eq]; omega) | (rw [beq_eq_false_iff_ne]; omega)
        have d7 : ((k : Int) == 0) = true := by first | (rw [beq_iff_eq]; omega) | (rw [beq_eq_false_iff_ne]; omega)
        have d8 : decide ((1 : Int) < (n : Int)) = true := decide_eq_true (by omega)
        have d8' : decide (1 < n) = true := decide_eq_true (by omega)
        have hnc : nchar n k c = true := by unfold nchar; simp; omega
        have hyes : Hid ((List.range (k + 1)).all (fun k => nchar n k (s.data.toList.getD k 0).toNat) = true) := Lib.hid (by rw [all_snoc, HA.out, hcl, hnc]; rfl)
        replace hcl := Lib.hid hcl
        replace hnc := Lib.hid hnc
        clear HA h
        go_wp2
        go_roundw
        case rel => exact ⟨k + 1, by omega, by go_num, by first | rfl | trivial, hyes⟩
        case measure => simp [intOf]; omega
      · have d1 : decide (97 ≤ (c : Int)) = false := decide_eq_false (by omega)
        have d1' : decide (97 ≤ c) = false := decide_eq_false (by omega)
        have d2 : decide ((c : Int) ≤ 122) = true := decide_eq_true (by omega)
        have d2' : decide (c ≤ 122) = true := decide_eq_true (by omega)
        have d3 : decide (48 ≤ (c : Int)) = true := decide_eq_true (by omega)
        have d3' : decide (48 ≤ c) = true := decide_eq_true (by omega)
        have d4 : decide ((c : Int) ≤ 57) = false := decide_eq_false (by omega)
        have d4' : decide (c ≤ 57) = false := decide_eq_false (by omega)
        have d5 : ((c : Int) == 45) = false := by first | (rw [beq_iff_eq]; omega) | (rw [beq_eq_false_iff_ne]; omega)
        have d6 : ((c : Int) == 58) = false := by first | (rw [beq_iff_eq]; omega) | (rw [beq_eq_false_iff_ne]; omega)
        have hnc : nchar n k c = false := by unfold nchar; simp; omega
        have hno := Lib.hid (all_no (fun k => nchar n k (s.data.toList.getD k 0).toNat) n k hkn (by simp only [hcl]; exact hnc))
        replace hcl := Lib.hid hcl
        replace hnc := Lib.hid hnc
        clear h
        go_wp2
        go_ret
        refine ⟨ret_bool ?_, rfl⟩
        unfold nameok; rw [hn, hno.out]; rfl
      · have d1 : decide (97 ≤ (c : Int)) = true := decide_eq_true (by omega)
        have d1' : decide (97 ≤ c) = true := decide_eq_true (by omega)
        have d2 : decide ((c : Int) ≤ 122) = true := decide_eq_true (by omega)
        have d2' : decide (c ≤ 122) = true := decide_eq_true (by omega)
        have d3 : decide (48 ≤ (c : Int)) = true := decide_eq_true (by omega)
        have d3' : decide (48 ≤ c) = true := decide_eq_true (by omega)
        have d4 : decide ((c : Int) ≤ 57) = false := decide_eq_false (by omega)
        have d4' : decide (c ≤ 57) = false := decide_eq_false (by omega)
        have d5 : ((c : Int) == 45) = false := by first | (rw [beq_iff_eq]; omega) | (rw [beq_eq_false_iff_ne]; omega)
        have d6 : ((c : Int) == 58) = false := by first | (rw [beq_iff_eq]; omega) | (rw [beq_eq_false_iff_ne]; omega)
        have hnc : nchar n k c = true := by unfold nchar; simp; omega
        have hyes : Hid ((List.range (k + 1)).all (fun k => nchar n k (s.data.toList.getD k 0).toNat) = true) := Lib.hid (by rw [all_snoc, HA.out, hcl, hnc]; rfl)
        replace hcl := Lib.hid hcl
        replace hnc := Lib.hid hnc
        clear HA h
        go_wp2
        go_roundw
        case rel => exact ⟨k + 1, by omega, by go_num, by first | rfl | trivial, hyes⟩
        case measure => simp [intOf]; omega
      · have d1 : decide (97 ≤ (c : Int)) = true := decide_eq_true (by omega)
        have d1' : decide (97 ≤ c) = true := decide_eq_true (by omega)
        have d2 : decide ((c : Int) ≤ 122) = false := decide_eq_false (by omega)
        have d2' : decide (c ≤ 122) = false := decide_eq_false (by omega)
        have d3 : decide (48 ≤ (c : Int)) = true := decide_eq_true (by omega)
        have d3' : decide (48 ≤ c) = true := decide_eq_true (by omega)
        have d4 : decide ((c : Int) ≤ 57) = false := decide_eq_false (by omega)
        have d4' : decide (c ≤ 57) = false := decide_eq_false (by omega)
        have d5 : ((c : Int) == 45) = false := by first | (rw [beq_iff_eq]; omega) | (rw [beq_eq_false_iff_ne]; omega)
        have d6 : ((c : Int) == 58) = false := by first | (rw [beq_iff_eq]; omega) | (rw [beq_eq_false_iff_ne]; omega)
        have hnc : nchar n k c = false := by unfold nchar; simp; omega
        have hno := Lib.hid (all_no (fun k => nchar n k (s.data.toList.getD k 0).toNat) n k hkn (by simp only [hcl]; exact hnc))
        replace hcl := Lib.hid hcl
        replace hnc := Lib.hid hnc
        clear h
        go_wp2
        go_ret
        refine ⟨ret_bool ?_, rfl⟩
        unfold nameok; rw [hn, hno.out]; rfl
    · have hk' : k = n := by omega
      have HB : Hid (nameok s = (decide (1 ≤ n) && decide (n ≤ 60))) := Lib.hid (by
        have := HA.out
        rw [hk'] at this
        unfold nameok; rw [hn, this, Bool.true_and])
      clear HA
      have h3 : n = 0 ∨ (1 ≤ n ∧ n ≤ 60) ∨ 60 < n := by omega
      rcases h3 with h | ⟨h, h2⟩ | h
      · have d1 : decide (1 ≤ n) = false := decide_eq_false (by omega)
        have d1' : decide ((1 : Int) ≤ (n : Int)) = false := decide_eq_false (by omega)
        rw [d1, Bool.false_and] at HB
        replace h := Lib.hid h
        go_wp2
        go_ret
        exact ⟨ret_bool HB.out.symm, rfl⟩
      · have d1 : decide (1 ≤ n) = true := decide_eq_true (by omega)
        have d1' : decide ((1 : Int) ≤ (n : Int)) = true := decide_eq_true (by omega)
        have d2 : decide (n ≤ 60) = true := decide_eq_true (by omega)
        have d2' : decide ((n : Int) ≤ 60) = true := decide_eq_true (by omega)
        rw [d1, d2, Bool.true_and] at HB
        go_wp2
        go_ret
        exact ⟨ret_bool HB.out.symm, rfl⟩
      · have d1 : decide (1 ≤ n) = true := decide_eq_true (by omega)
        have d1' : decide ((1 : Int) ≤ (n : Int)) = true := decide_eq_true (by omega)
        have d2 : decide (n ≤ 60) = false := decide_eq_false (by omega)
        have d2' : decide ((n : Int) ≤ 60) = false := decide_eq_false (by omega)
        rw [d1, d2, Bool.true_and] at HB
        go_wp2
        go_ret
        exact ⟨ret_bool HB.out.symm, rfl⟩
end Go.Proofs.YtdldipkbknhhoaaDoor

/- The document's prefixes: Get, GetText. -/
namespace Go.Proofs.YtdldipkbknhhoaaDoor
open Go.RowKit

theorem and127 (c : UInt8) : bits .and .u8 (c.toNat : Int) 127 = (c.toNat : Int) % 128 := by
  have hc := UInt8.toNat_lt c
  have e2 : c.toNat &&& 127 = c.toNat % 128 := Nat.and_two_pow_sub_one_eq_mod _ 7
  rw [show (127 : Int) = ((127 : Nat) : Int) from rfl, u8_and_nat _ _ (by omega) (by omega), e2]; simp
theorem shift_bd2 (k : Nat) (hk1 : 1 ≤ k) (hk : k < 9) : (2 : Int) ^ (7 * (k - 1)) ≤ 562949953421312 := by
  have : k = 1 ∨ k = 2 ∨ k = 3 ∨ k = 4 ∨ k = 5 ∨ k = 6 ∨ k = 7 ∨ k = 8 := by omega
  rcases this with rfl | rfl | rfl | rfl | rfl | rfl | rfl | rfl <;> decide
theorem prod_bd2 (k : Nat) (hk1 : 1 ≤ k) (hk : k < 10) (p : Int) (h0 : 0 ≤ p) (h1 : p ≤ 127) (h9 : k = 9 → p ≤ 63) : 0 ≤ p * 2 ^ (7 * (k - 1)) ∧ p * 2 ^ (7 * (k - 1)) ≤ 4539628424389459968 := by
  have hS := shift_bd k hk
  refine ⟨Int.mul_nonneg h0 (by omega), ?_⟩
  by_cases h : k = 9
  · subst h
    have := h9 rfl
    simp only [show 7 * (9 - 1) = 56 from rfl, show (2 : Int) ^ 56 = 72057594037927936 from by decide]
    omega
  · have hS2 := shift_bd2 k hk1 (by omega)
    have := Int.mul_le_mul h1 hS2 (by omega) (by omega)
    omega
theorem prod_big (p : Int) (h : 63 < p) : 4611686018427387903 < p * 2 ^ (7 * (9 - 1)) := by
  simp only [show 7 * (9 - 1) = 56 from rfl, show (2 : Int) ^ 56 = 72057594037927936 from by decide]
  omega

set_option maxHeartbeats 400000 in
theorem rpget_nil (b : Nat) (A : Option Addr) (c : Nat) (w : World) (hb1 : 1 ≤ b) (hb8 : b ≤ 8) :
    Calls Tryd.prog 59 #[.slice A 0 c, .int .i64 b] w fun e w' => e = .returned (ptup (0, 0, 3)) ∧ w = w' := by
  have d1 : decide ((b : Int) < 1) = false := decide_eq_false (by omega)
  have d2 : decide ((8 : Int) < (b : Int)) = false := decide_eq_false (by omega)
  have d2' : decide (8 < b) = false := decide_eq_false (by omega)
  go_enter Tryd.func59, Tryd.ntmps59
  go_wp2
  go_ret3
  exact ⟨rfl, rfl⟩

set_option maxRecDepth 100000 in
set_option maxHeartbeats 1000000 in
theorem rpget_cons (x : UInt8) (r : List UInt8) (b : Nat) (A : Option Addr) (c : Nat) (w : World) (hb1 : 1 ≤ b) (hb8 : b ≤ 8) (hr : Rd w A (bv (x :: r))) (hm : r.length + 1 ≤ 140737488355328) :
    Calls Tryd.prog 59 #[.slice A (r.length + 1) c, .int .i64 b] w fun e w' => e = .returned (ptup (pget b (x :: r))) ∧ w = w' := by
  have d1 : decide ((b : Int) < 1) = false := decide_eq_false (by omega)
  have d2 : decide ((8 : Int) < (b : Int)) = false := decide_eq_false (by omega)
  have d2' : decide (8 < b) = false := decide_eq_false (by omega)
  obtain ⟨bl, off, rfl, hcell⟩ := hr (by simp)
  have h0 := hcell 0 _ (bv_get (k := 0) (by simp))
  simp only [List.getElem_cons_zero, Nat.add_zero] at h0
  replace hcell := Lib.hid hcell
  have hx := UInt8.toNat_lt x
  have hP := pmost_bd b hb1 hb8
  have hand := and_most x.toNat b hx hb8
  have HG : pget b (x :: r) = if (x.toNat : Int) % 2 ^ b < 2 ^ b - 1 then ((x.toNat : Int) % 2 ^ b, 1, 0) else ploop 9 1 ((x.toNat : Int) % 2 ^ b) r := rfl
  have hz : ((r.length : Int) + 1 == 0) = false := by rw [beq_eq_false_iff_ne]; omega
  have hm0 : 0 ≤ (x.toNat : Int) % 2 ^ b ∧ (x.toNat : Int) % 2 ^ b ≤ 2 ^ b - 1 := by
    have := Int.emod_nonneg (x.toNat : Int) (show (2 : Int) ^ b ≠ 0 by omega)
    have := Int.emod_lt_of_pos (x.toNat : Int) (show (0 : Int) < 2 ^ b by omega)
    omega
  obtain ⟨P, hPe⟩ : ∃ P, (2 : Int) ^ b = P := ⟨_, rfl⟩
  rw [hPe] at hP hand HG hm0
  obtain ⟨m, hme⟩ : ∃ m, (x.toNat : Int) % P = m := ⟨_, rfl⟩
  rw [hme] at hm0 hand HG
  replace HG := Lib.hid HG
  clear hme
  by_cases hlt : m < P - 1
  · go_enter Tryd.func59, Tryd.ntmps59
    go_wp2_with fail
    go_ret3
    exact ⟨by rw [HG.out, if_pos hlt]; rfl, rfl⟩
  · obtain ⟨res, hres⟩ : ∃ res, ploop 9 1 m r = res := ⟨_, rfl⟩
    have HR : pget b (x :: r) = res := by rw [HG.out, if_neg hlt, hres]
    replace HR := Lib.hid HR
    have HRES := Lib.hid hres
    clear hres HG
    go_enter Tryd.func59, Tryd.ntmps59
    go_wp2_with fail
    go_loop [8, 9] (fun n i => ∃ (k : Nat) (N : Int), 1 ≤ k ∧ k ≤ 10 ∧ k ≤ r.length + 1 ∧ i = .int .i64 k ∧ n = .int .u64 N ∧ 0 ≤ N ∧ N ≤ 4611686018427387903 ∧ Hid (ploop (10 - k) k N (r.drop (k - 1)) = res)) (fun _ i => 10 - (intOf i).toNat)
    case atStart => exact ⟨1, m, by omega, by omega, by omega, rfl, rfl, by omega, by omega, HRES⟩
    case round =>
      obtain ⟨k, N, hk1, hk10, hkr, rfl, rfl, hN0, hN1, HL⟩ := hrel
      by_cases hk : k < 10
      · have g1 : decide ((10 : Int) ≤ (k : Int)) = false := decide_eq_false (by omega)
        have g1' : decide (10 ≤ k) = false := decide_eq_false (by omega)
        by_cases hkl : k = r.length + 1
        · have g2 : decide ((r.length : Int) + 1 ≤ (k : Int)) = true := decide_eq_true (by omega)
          have g2' : decide (r.length + 1 ≤ k) = true := decide_eq_true (by omega)
          have HE : res = (0, 0, 3) := by
            rw [← HL.out, List.drop_of_length_le (by omega)]
            obtain ⟨f, hf⟩ : ∃ f, 10 - k = f + 1 := ⟨9 - k, by omega⟩
            rw [hf]; rfl
          replace HE := Lib.hid HE
          replace hkl := Lib.hid hkl
          go_wp2_with fail
          go_ret3
          exact ⟨by rw [HR.out, HE.out]; rfl, rfl⟩
        · have g2 : decide ((r.length : Int) + 1 ≤ (k : Int)) = false := decide_eq_false (by omega)
          have g2' : decide (r.length + 1 ≤ k) = false := decide_eq_false (by omega)
          have hg := hcell.out k _ (bv_get (l := x :: r) (by simp; omega))
          obtain ⟨cb, hcb⟩ : ∃ cb, (x :: r)[k]'(by simp; omega) = cb := ⟨_, rfl⟩
          rw [hcb] at hg
          have hdrop : r.drop (k - 1) = cb :: r.drop k := by
            rw [List.drop_eq_getElem_cons (by omega), ← hcb]
            obtain ⟨j, rfl⟩ : ∃ j, k = j + 1 := ⟨k - 1, by omega⟩
            rfl
          have hS := shift_bd k hk
          have ha := and127 cb
          have HSTEP : ploop (10 - k) k N (r.drop (k - 1)) = if 4611686018427387903 < N + (cb.toNat : Int) % 128 * 2 ^ (7 * (k - 1)) then (0, 0, 4) else if cb.toNat < 128 then (N + (cb.toNat : Int) % 128 * 2 ^ (7 * (k - 1)), (k : Int) + 1, 0) else ploop (10 - (k + 1)) (k + 1) (N + (cb.toNat : Int) % 128 * 2 ^ (7 * (k - 1))) (r.drop (k + 1 - 1)) := by
            obtain ⟨f, hf⟩ : ∃ f, 10 - k = f + 1 := ⟨9 - k, by omega⟩
            rw [hdrop, hf, show 10 - (k + 1) = f from by omega, Nat.add_sub_cancel]; rfl
          rw [HL.out] at HSTEP
          have hcl := UInt8.toNat_lt cb
          have hp : 0 ≤ (cb.toNat : Int) % 128 ∧ (cb.toNat : Int) % 128 ≤ 127 := by omega
          have hlt : k < r.length + 1 := by omega
          have hltI : (k : Int) < (r.length : Int) + 1 := by omega
          by_cases h9 : k = 9 ∧ 63 < (cb.toNat : Int) % 128
          · obtain ⟨rfl, h63⟩ := h9
            have hbig := prod_big _ h63
            obtain ⟨p, hpe⟩ : ∃ p, (cb.toNat : Int) % 128 = p := ⟨_, rfl⟩
            rw [hpe] at ha HSTEP hp h63 hbig
            have HE := Lib.hid (HSTEP.trans (if_pos (by omega)))
            have g3 : decide (63 < p) = true := decide_eq_true h63
            clear hcb hdrop hpe HSTEP hbig hS
            go_wp2_with fail
            go_ret3
            exact ⟨by rw [HR.out, HE.out]; rfl, rfl⟩
          · have hT := prod_bd2 k hk1 hk _ hp.1 hp.2 (fun e => by omega)
            obtain ⟨t9, ht9⟩ : ∃ t9, ((k : Int) == 9) = t9 := ⟨_, rfl⟩
            have hc9 : t9 = false ∨ (t9 = true ∧ ¬ 63 < (cb.toNat : Int) % 128) := by
              by_cases e : k = 9
              · right; exact ⟨by rw [← ht9, beq_iff_eq]; omega, by omega⟩
              · left; rw [← ht9, beq_eq_false_iff_ne]; omega
            obtain ⟨S, hSe⟩ : ∃ S, (2 : Int) ^ (7 * (k - 1)) = S := ⟨_, rfl⟩
            obtain ⟨p, hpe⟩ : ∃ p, (cb.toNat : Int) % 128 = p := ⟨_, rfl⟩
            rw [hSe] at hS HSTEP hT
            rw [hpe] at ha HSTEP hp hT hc9
            obtain ⟨T, hTe⟩ : ∃ T, p * S = T := ⟨_, rfl⟩
            rw [hTe] at hT HSTEP
            replace HSTEP := Lib.hid HSTEP
            replace h9 := Lib.hid h9
            clear hcb hdrop hpe
            by_cases hc2 : 4611686018427387903 < N + T
            · have hd2 : decide (4611686018427387903 < N + T) = true := decide_eq_true hc2
              rcases hc9 with rfl | ⟨rfl, h63⟩
              · go_wp2_with fail
                go_ret3
                exact ⟨by rw [HR.out, HSTEP.out, if_pos hc2]; rfl, rfl⟩
              · have g3 : decide (63 < p) = false := decide_eq_false h63
                go_wp2_with fail
                go_ret3
                exact ⟨by rw [HR.out, HSTEP.out, if_pos hc2]; rfl, rfl⟩
            · have hd2 : decide (4611686018427387903 < N + T) = false := decide_eq_false hc2
              by_cases hc3 : cb.toNat < 128
              · have HE := Lib.hid (HSTEP.out.trans ((if_neg hc2).trans (if_pos hc3)))
                rcases hc9 with rfl | ⟨rfl, h63⟩
                · go_wp2_with fail
                  go_ret3
                  exact ⟨by rw [HR.out, HE.out]; rfl, rfl⟩
                · have g3 : decide (63 < p) = false := decide_eq_false h63
                  go_wp2_with fail
                  go_ret3
                  exact ⟨by rw [HR.out, HE.out]; rfl, rfl⟩
              · have HN : Hid (ploop (10 - (k + 1)) (k + 1) (N + T) (r.drop (k + 1 - 1)) = res) := by
                  have := HSTEP.out
                  rw [if_neg hc2, if_neg hc3] at this
                  exact Lib.hid this.symm
                rcases hc9 with rfl | ⟨rfl, h63⟩
                · go_wp2_with fail
                  go_round
                  case rel => exact ⟨k + 1, N + T, by omega, by omega, by omega, by go_num, rfl, by omega, by omega, HN⟩
                  case measure => simp [intOf]; omega
                · have g3 : decide (63 < p) = false := decide_eq_false h63
                  go_wp2_with fail
                  go_round
                  case rel => exact ⟨k + 1, N + T, by omega, by omega, by omega, by go_num, rfl, by omega, by omega, HN⟩
                  case measure => simp [intOf]; omega
      · have hk' : k = 10 := by omega
        subst hk'
        have HE : res = (0, 0, 4) := by rw [← HL.out]; rfl
        replace HE := Lib.hid HE
        go_wp2_with fail
        go_ret3
        exact ⟨by rw [HR.out, HE.out]; rfl, rfl⟩

theorem rpget_any (l : List UInt8) (b : Nat) (A : Option Addr) (c : Nat) (w : World) (hb1 : 1 ≤ b) (hb8 : b ≤ 8) (hr : Rd w A (bv l)) (hm : l.length ≤ 140737488355328) :
    Calls Tryd.prog 59 #[.slice A l.length c, .int .i64 b] w fun e w' => e = .returned (ptup (pget b l)) ∧ w = w' := by
  match l, hr, hm with
  | [], _, _ => exact rpget_nil b A c w hb1 hb8
  | x :: r, hr, hm => exact rpget_cons x r b A c w hb1 hb8 hr hm

set_option maxRecDepth 100000 in
set_option maxHeartbeats 2000000 in
theorem rgettext_cons (x : UInt8) (r : List UInt8) (b : Nat) (A : Option Addr) (c : Nat) (w : World) (hb1 : 1 ≤ b) (hb7 : b ≤ 7) (hr : Rd w A (bv (x :: r))) (hm : r.length + 1 ≤ 140737488355328) (hc : r.length + 1 ≤ c) (hcc : c ≤ 9223372036854775807) :
    Calls Tryd.prog 60 #[.slice A (r.length + 1) c, .int .i64 b] w fun e w' => e = .returned (tpgettext b (x :: r)) ∧ w = w' := by
  have d1 : decide ((b : Int) < 1) = false := decide_eq_false (by omega)
  have d2 : decide ((7 : Int) < (b : Int)) = false := decide_eq_false (by omega)
  have d2' : decide (7 < b) = false := decide_eq_false (by omega)
  have hlI : (0 : Int) < (r.length : Int) + 1 := by omega
  have hlD : decide ((0 : Int) < (r.length : Int) + 1) = true := decide_eq_true (by omega)
  have C := Lib.hid (rpget_any (x :: r) b A c w hb1 (by omega) hr hm)
  have HOK := Lib.hid (pget_ok b x r hb1 (by omega))
  have HD := Lib.hid (fun k (h : k ≤ (bv (x :: r)).length) => hr.drop (k := k) (cap := c) h (by simpa using hc))
  obtain ⟨bl, off, rfl, hcell⟩ := hr (by simp)
  have h0 := hcell 0 _ (bv_get (k := 0) (by simp))
  simp only [List.getElem_cons_zero, Nat.add_zero] at h0
  clear hcell
  have hx := UInt8.toNat_lt x
  have hP := pmost_bd b hb1 (by omega)
  have hz : ((r.length : Int) + 1 == 0) = false := by rw [beq_eq_false_iff_ne]; omega
  have hand := shr_bit x.toNat b hx hb1 hb7
  have HG : pgettext b (x :: r) = if (x.toNat : Int) / 2 ^ b % 2 = 1 then ([], 0, 6)
    else if (pget b (x :: r)).2.2 ≠ 0 then ([], 0, (pget b (x :: r)).2.2)
    else if 2000 < (pget b (x :: r)).1 then ([], 0, 4)
    else if ((x :: r).length : Int) - (pget b (x :: r)).2.1 < (pget b (x :: r)).1 then ([], 0, 3)
    else (((x :: r).drop (pget b (x :: r)).2.1.toNat).take (pget b (x :: r)).1.toNat, (pget b (x :: r)).2.1 + (pget b (x :: r)).1, 0) := rfl
  obtain ⟨t, hte⟩ : ∃ t, (x.toNat : Int) / 2 ^ b % 2 = t := ⟨_, rfl⟩
  rw [hte] at hand HG
  have ht : t = 0 ∨ t = 1 := by omega
  obtain ⟨g, hge⟩ : ∃ g, pget b (x :: r) = g := ⟨_, rfl⟩
  rw [hge] at C HOK HG
  obtain ⟨N, a, e⟩ := g
  simp only [] at HG HOK
  replace HG := Lib.hid HG
  clear hte hge
  unfold tpgettext
  rcases ht with rfl | rfl
  · by_cases he : e = 0
    · subst he
      obtain ⟨hN0, hN1, ha1, ha2⟩ := HOK.out rfl
      obtain ⟨n, rfl⟩ := Int.eq_ofNat_of_zero_le hN0
      obtain ⟨a, rfl⟩ := Int.eq_ofNat_of_zero_le (show 0 ≤ a by omega)
      by_cases hb : 2000 < (n : Int)
      · have HE := Lib.hid (HG.out.trans (by rw [if_neg (by omega), if_neg (by simp), if_pos hb]))
        go_enter Tryd.func60, Tryd.ntmps60
        go_wp2_with fail
        refine C.out.mono ?_
        rintro e w' ⟨rfl, rfl⟩
        simp only [ptup]
        go_wp2_with fail
        go_ret3
        exact ⟨by rw [HE.out]; rfl, rfl⟩
      · by_cases hsh : (r.length : Int) + 1 - a < n
        · have HE := Lib.hid (HG.out.trans (by rw [if_neg (by omega), if_neg (by simp), if_neg hb, if_pos (by simpa using hsh)]))
          go_enter Tryd.func60, Tryd.ntmps60
          go_wp2_with fail
          refine C.out.mono ?_
          rintro e w' ⟨rfl, rfl⟩
          simp only [ptup]
          go_wp2_with fail
          go_ret3
          exact ⟨by rw [HE.out]; rfl, rfl⟩
        · have hd := HD.out a (by simp; omega)
          have htk := hd.take n
          rw [← bv_drop, ← bv_take] at htk
          have hlen : (((x :: r).drop a).take n).length = n := by simp; omega
          have HE : pgettext b (x :: r) = (((x :: r).drop a).take n, (a : Int) + n, 0) := HG.out.trans (by rw [if_neg (by omega), if_neg (by simp), if_neg hb, if_neg (by simpa using hsh)]; rfl)
          have hconv := run_conv_bytes (P := Tryd.prog) (src := 23) (dst := 9) (e := 5) Tryd.underlying23 Tryd.underlying5 Tryd.underlying9 (c := c - a) htk
          rw [hlen] at hconv
          rw [HE]
          generalize ((x :: r).drop a).take n = out at hconv
          clear HE HG htk hd hlen HD
          obtain ⟨S, hSe⟩ : ∃ S : ByteArray, (⟨out.toArray⟩ : ByteArray) = S := ⟨_, rfl⟩
          simp only [hSe] at hconv ⊢
          clear hSe
          by_cases hca : c = a
          · subst hca
            have hn0 : n = 0 := by omega
            subst hn0
            rw [if_pos rfl] at hconv
            simp only [Nat.sub_self] at hconv
            go_enter Tryd.func60, Tryd.ntmps60
            go_wp2_with fail
            refine C.out.mono ?_
            rintro e w' ⟨rfl, rfl⟩
            simp only [ptup]
            go_wp2_with fail
            go_ret3
            exact ⟨rfl, rfl⟩
          · rw [if_neg hca] at hconv
            simp only [Option.map_some, WideShapes.add_plain] at hconv
            go_enter Tryd.func60, Tryd.ntmps60
            go_wp2_with fail
            refine C.out.mono ?_
            rintro e w' ⟨rfl, rfl⟩
            simp only [ptup]
            go_wp2_with fail
            go_ret3
            exact ⟨rfl, rfl⟩
    · have HE := Lib.hid (HG.out.trans (by rw [if_neg (by omega), if_pos he]))
      have hne : (e != 0) = true := by rw [bne_iff_ne]; exact he
      clear he
      go_enter Tryd.func60, Tryd.ntmps60
      go_wp2_with fail
      refine C.out.mono ?_
      rintro e w' ⟨rfl, rfl⟩
      simp only [ptup]
      go_wp2_with fail
      go_ret3
      exact ⟨by rw [HE.out]; rfl, rfl⟩
  · have HE := Lib.hid (HG.out.trans (by rw [if_pos rfl]))
    go_enter Tryd.func60, Tryd.ntmps60
    go_wp2_with fail
    go_ret3
    exact ⟨by rw [HE.out]; rfl, rfl⟩

theorem rgettext_any (l : List UInt8) (b : Nat) (A : Option Addr) (c : Nat) (w : World) (hb1 : 1 ≤ b) (hb7 : b ≤ 7) (hr : Rd w A (bv l)) (hm : l.length ≤ 140737488355328) (hc : l.length ≤ c) (hcc : c ≤ 9223372036854775807) :
    Calls Tryd.prog 60 #[.slice A l.length c, .int .i64 b] w fun e w' => e = .returned (tpgettext b l) ∧ w = w' := by
  have d1 : decide ((b : Int) < 1) = false := decide_eq_false (by omega)
  have d2 : decide ((7 : Int) < (b : Int)) = false := decide_eq_false (by omega)
  have d2' : decide (7 < b) = false := decide_eq_false (by omega)
  match l, hr, hm, hc with
  | [], _, _, _ =>
    have C := Lib.hid (rpget_nil b A c w hb1 (by omega))
    go_enter Tryd.func60, Tryd.ntmps60
    go_wp2_with fail
    refine C.out.mono ?_
    rintro e w' ⟨rfl, rfl⟩
    simp only [ptup]
    go_wp2_with fail
    go_ret3
    exact ⟨rfl, rfl⟩
  | x :: r, hr, hm, hc => exact rgettext_cons x r b A c w hb1 hb7 hr hm hc hcc
end Go.Proofs.YtdldipkbknhhoaaDoor

/- The document's fields: what a line tells, in plain Lean; it is what our reader tells. -/
namespace Go.Proofs.YtdldipkbknhhoaaDoor
open Go.RowKit

theorem res_ctt {P : Program} {fn : Func} {p t1 t2 : Tmp} {s : TypeId} (h : fn.results = #[.cell p s, .tmp t1, .tmp t2]) (tmps : Array Value) (w : World) (a : Addr) (x : Value) {u1 u2 : Value}
    (ha : tmps.getD p undef = .pointer (some a)) (hx : (loadVar s a).run P w = .ok x w) (h1 : tmps.getD t1 undef = u1) (h2 : tmps.getD t2 undef = u2) : (results fn tmps).run P w = .ok (.tuple #[x, u1, u2]) w := by
  subst h1 h2
  simp only [Array.getD_eq_getD_getElem?] at ha
  simp only [results, h]
  simp [Sem.run_bind, Result.andThen, ha, asAddr, hx]
set_option maxRecDepth 100000 in
set_option maxHeartbeats 2000000 in
theorem rfixed_far (w : World) : Calls Tryd.prog 58 #[] w fun e w' => ∃ g, e = .returned (.slice (some ⟨g, 0, none⟩) 16 16) ∧ w.heap.size ≤ g ∧ (∀ (N : Nat) (a b : ByteArray), fixed[N]? = some (⟨a, b⟩ : Fd) → w'.cell? ⟨g, N * 2, none⟩ = some (.string a) ∧ w'.cell? ⟨g, N * 2 + 1, none⟩ = some (.string b)) ∧ Below w.heap.size w w' := by
  go_enter Tryd.func58, Tryd.ntmps58
  go_wp2
  go_ret
  refine ⟨_, rfl, Nat.le_refl _, fun N a b h => ?_, (Below.refl _ w).alloc (Nat.le_refl _) _⟩
  obtain ⟨hN, e⟩ := List.getElem?_eq_some_iff.1 h
  obtain ⟨b', off', e1, x0, x1⟩ := load_fd (Rd.fresh_mark w (fdv fixed) _ _) hN
  injection e1 with e1
  injection e1 with e1 e2
  subst e1 e2
  rw [e, Nat.zero_add] at x0 x1
  exact ⟨x0, x1⟩

/-- The number of one of the fixed ones, b bits wide. -/
def rnum (b : Nat) (l : List UInt8) : Nat × Int × Int :=
  if (pget b l).2.2 ≠ 0 then (0, 0, (pget b l).2.2) else if 16 ≤ (pget b l).1 then (0, 0, 5) else ((pget b l).1.toNat, (pget b l).2.1, 0)
def rtail (l : List UInt8) (a : ByteArray) (k : Nat) : Fd × Int × Int :=
  if (pgettext 7 (l.drop k)).2.2 ≠ 0 then (fdz, 0, (pgettext 7 (l.drop k)).2.2)
  else if 400 < (pgettext 7 (l.drop k)).1.length then (fdz, 0, 4)
  else if valok ⟨(pgettext 7 (l.drop k)).1.toArray⟩ = false then (fdz, 0, 5)
  else (⟨a, ⟨(pgettext 7 (l.drop k)).1.toArray⟩⟩, (k : Int) + (pgettext 7 (l.drop k)).2.1, 0)
def rln : List UInt8 → Fd × Int × Int
  | [] => (fdz, 0, 5)
  | x :: r =>
    if x.toNat / 64 = 3 then (if (rnum 6 (x :: r)).2.2 ≠ 0 then (fdz, 0, (rnum 6 (x :: r)).2.2) else (fixed.getD (rnum 6 (x :: r)).1 fdz, (rnum 6 (x :: r)).2.1, 0))
    else if x.toNat / 16 = 5 then (if (rnum 4 (x :: r)).2.2 ≠ 0 then (fdz, 0, (rnum 4 (x :: r)).2.2) else rtail (x :: r) (fixed.getD (rnum 4 (x :: r)).1 fdz).name (rnum 4 (x :: r)).2.1.toNat)
    else if x.toNat / 16 = 2 then
      (if (pgettext 3 (x :: r)).2.2 ≠ 0 then (fdz, 0, (pgettext 3 (x :: r)).2.2)
       else if nameok ⟨(pgettext 3 (x :: r)).1.toArray⟩ = false then (fdz, 0, 5)
       else rtail (x :: r) ⟨(pgettext 3 (x :: r)).1.toArray⟩ (pgettext 3 (x :: r)).2.1.toNat)
    else (fdz, 0, 5)

theorem pgettext_pos (b : Nat) (l : List UInt8) (hb1 : 1 ≤ b) (hb7 : b ≤ 7) (h : (pgettext b l).2.2 = 0) : 1 ≤ (pgettext b l).2.1 := by
  cases l with
  | nil => simp [pgettext] at h
  | cons x r =>
    have hg := pget_ok b x r hb1 (by omega)
    unfold pgettext at h ⊢
    simp only at h ⊢
    split at h
    · simp at h
    · split at h
      · rename_i h1; exact absurd h h1
      · split at h
        · simp at h
        · split at h
          · simp at h
          · rename_i h1 h2 h3 h4
            have := hg (by simpa using h2)
            rw [if_neg h1, if_neg h2, if_neg h3, if_neg h4]
            simp only
            omega

/-- What rtail tells, beside pval. -/
theorem rtail_pval (l : List UInt8) (a : ByteArray) (k : Nat) (hk : k ≤ l.length) :
    (rtail l a k).2.2 = (pval (l.drop k) 0).2.1 ∧ ((rtail l a k).2.2 = 0 → (rtail l a k).1 = ⟨a, (pval (l.drop k) 0).2.2⟩ ∧ l.drop (rtail l a k).2.1.toNat = (pval (l.drop k) 0).1 ∧ (k : Int) + 1 ≤ (rtail l a k).2.1 ∧ (rtail l a k).2.1 ≤ l.length) := by
  have hb := pgettext_bd 7 (l.drop k) (by omega) (by omega)
  have hp := pgettext_pos 7 (l.drop k) (by omega) (by omega)
  have hld : (l.drop k).length = l.length - k := List.length_drop
  have hx : ptxt 7 (l.drop k) 0 = ((l.drop k).drop (pgettext 7 (l.drop k)).2.1.toNat, (pgettext 7 (l.drop k)).2.2, ⟨(pgettext 7 (l.drop k)).1.toArray⟩) := by unfold ptxt; rw [if_neg (by simp)]
  unfold rtail pval
  rw [hx]
  obtain ⟨⟨s, lg, er⟩, ht⟩ : ∃ t, pgettext 7 (l.drop k) = t := ⟨_, rfl⟩
  rw [ht] at hb hp ⊢
  have hsz : (⟨s.toArray⟩ : ByteArray).size = s.length := by simp [ByteArray.size]
  simp only [hsz] at hb hp ⊢
  by_cases h0 : er = 0
  · have := hp h0
    subst h0
    simp only [ne_eq, not_true_eq_false, if_false]
    by_cases h1 : 400 < s.length
    · rw [if_pos h1, if_pos h1]; simp
    · rw [if_neg h1, if_neg h1]
      cases hv : valok ⟨s.toArray⟩ with
      | false => simp
      | true =>
        rw [if_neg (by simp), if_pos rfl]
        refine ⟨rfl, fun _ => ⟨rfl, ?_, by simp only; omega, by simp only; omega⟩⟩
        simp only [List.drop_drop]
        congr 1
        omega
  · rw [if_pos h0, if_pos h0]
    exact ⟨rfl, fun h => absurd h h0⟩
theorem pval_err (l : List UInt8) (e : Int) (he : e ≠ 0) : (pval l e).2.1 = e := by
  unfold pval ptxt
  rw [if_pos he, if_pos he]
theorem rnum_pnum (b : Nat) (l : List UInt8) (hb1 : 1 ≤ b) (hb8 : b ≤ 8) : (rnum b l).2.2 = (pnum b l).2.1 ∧ ((rnum b l).2.2 = 0 → fixed.getD (rnum b l).1 fdz = (pnum b l).2.2 ∧ l.drop (rnum b l).2.1.toNat = (pnum b l).1 ∧ 1 ≤ (rnum b l).2.1 ∧ (rnum b l).2.1 ≤ l.length ∧ (rnum b l).1 < 16) := by
  have hb := pget_bd b l hb1 hb8
  unfold rnum pnum
  obtain ⟨⟨N, lg, er⟩, ht⟩ : ∃ t, pget b l = t := ⟨_, rfl⟩
  rw [ht] at hb ⊢
  simp only at hb ⊢
  by_cases h0 : er = 0
  · have := hb h0
    subst h0
    simp only [ne_eq, not_true_eq_false, if_false]
    by_cases h1 : 16 ≤ N
    · rw [if_pos h1, if_pos h1]; simp
    · rw [if_neg h1, if_neg h1]
      exact ⟨rfl, fun _ => ⟨rfl, rfl, by simp only; omega, by simp only; omega, by simp only; omega⟩⟩
  · rw [if_pos h0, if_pos h0]
    exact ⟨rfl, fun h => absurd h h0⟩
theorem rln_pln (x : UInt8) (r : List UInt8) : (rln (x :: r)).2.2 = (pln (x :: r)).2.1 ∧ ((rln (x :: r)).2.2 = 0 → (rln (x :: r)).1 = (pln (x :: r)).2.2 ∧ (x :: r).drop (rln (x :: r)).2.1.toNat = (pln (x :: r)).1 ∧ 1 ≤ (rln (x :: r)).2.1 ∧ (rln (x :: r)).2.1 ≤ (x :: r).length) := by
  rw [rln, pln]
  by_cases c1 : x.toNat / 64 = 3
  · rw [if_pos c1, if_pos c1]
    obtain ⟨h1, h2⟩ := rnum_pnum 6 (x :: r) (by omega) (by omega)
    by_cases h0 : (rnum 6 (x :: r)).2.2 = 0
    · obtain ⟨a1, a2, a3, a4, _⟩ := h2 h0
      rw [if_neg (by simpa using h0)]
      exact ⟨by rw [← h1, h0], fun _ => ⟨a1, a2, a3, a4⟩⟩
    · rw [if_pos h0]
      exact ⟨h1, fun h => absurd h h0⟩
  · rw [if_neg c1, if_neg c1]
    by_cases c2 : x.toNat / 16 = 5
    · rw [if_pos c2, if_pos c2]
      obtain ⟨h1, h2⟩ := rnum_pnum 4 (x :: r) (by omega) (by omega)
      by_cases h0 : (rnum 4 (x :: r)).2.2 = 0
      · obtain ⟨a1, a2, a3, a4, _⟩ := h2 h0
        rw [if_neg (by simpa using h0)]
        obtain ⟨b1, b2⟩ := rtail_pval (x :: r) (fixed.getD (rnum 4 (x :: r)).1 fdz).name (rnum 4 (x :: r)).2.1.toNat (by omega)
        rw [a2] at b1 b2
        rw [← h1, h0, ← a1]
        refine ⟨b1, fun h => ?_⟩
        obtain ⟨d1, d2, d3, d4⟩ := b2 h
        exact ⟨d1, d2, by omega, d4⟩
      · rw [if_pos h0]
        refine ⟨?_, fun h => absurd h h0⟩
        simp only
        rw [← h1, pval_err _ _ h0]
    · rw [if_neg c2, if_neg c2]
      by_cases c3 : x.toNat / 16 = 2
      · rw [if_pos c3, if_pos c3]
        have hb := pgettext_bd 3 (x :: r) (by omega) (by omega)
        have hp := pgettext_pos 3 (x :: r) (by omega) (by omega)
        have hx : ptxt 3 (x :: r) 0 = ((x :: r).drop (pgettext 3 (x :: r)).2.1.toNat, (pgettext 3 (x :: r)).2.2, ⟨(pgettext 3 (x :: r)).1.toArray⟩) := by unfold ptxt; rw [if_neg (by simp)]
        rw [hx]
        obtain ⟨⟨s, lg, er⟩, ht⟩ : ∃ t, pgettext 3 (x :: r) = t := ⟨_, rfl⟩
        rw [ht] at hb hp ⊢
        simp only at hb hp ⊢
        by_cases h0 : er = 0
        · rw [if_neg (by simpa using h0)]
          cases hv : nameok ⟨s.toArray⟩ with
          | false =>
            rw [if_pos rfl, if_pos ⟨h0, rfl⟩, pval_err _ _ (by omega)]
            simp
          | true =>
            have := hp h0
            rw [if_neg (by simp), if_neg (by simp), h0]
            obtain ⟨b1, b2⟩ := rtail_pval (x :: r) ⟨s.toArray⟩ lg.toNat (by omega)
            refine ⟨b1, fun h => ?_⟩
            obtain ⟨d1, d2, d3, d4⟩ := b2 h
            exact ⟨d1, d2, by omega, d4⟩
        · rw [if_pos h0, if_neg (fun h => h0 h.1), pval_err _ _ h0]
          exact ⟨rfl, fun h => absurd h h0⟩
      · rw [if_neg c3, if_neg c3, pval_err _ _ (by omega)]
        simp
end Go.Proofs.YtdldipkbknhhoaaDoor
