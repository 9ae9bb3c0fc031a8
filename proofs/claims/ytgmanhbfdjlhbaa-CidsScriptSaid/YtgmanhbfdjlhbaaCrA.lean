/- The document's pool: what it holds; New, Free, Token. -/
import Derived.Test.YtgmanhbfdjlhbaaCdN
import Derived.Deep.CutRange
import Derived.Deep.Cut
namespace Go.Proofs.Ytgmanhbfdjlhbaa
open Go.RowKit

def sob (l : List UInt8) : ByteArray := ⟨l.toArray⟩
def Nm.cells (x : Nm) : List Value := [.int .u64 (x.seq : Int), .string (sob x.id), .string (sob x.tok), .bool (!x.tok.isEmpty), .int .i64 x.path, .bool x.told]
theorem nmc (x : Nm) : x.cells.length = 6 := rfl
theorem nmo (x : Nm) : ∀ u ∈ x.cells, u.oneCell' = true := by
  intro u hu; simp [Nm.cells] at hu; rcases hu with rfl | rfl | rfl | rfl | rfl | rfl <;> rfl
abbrev nmv (l : List Nm) : List Value := rv Nm.cells l
theorem nmv_len (l : List Nm) : (nmv l).length = l.length * 6 := rv_length Nm.cells nmc l
theorem infoO : (Try.prog.info? 62).map (fun i => (i.zero, i.size, i.bytes)) = some (some (.agg #[.int .u64 0, .string ⟨#[]⟩, .string ⟨#[]⟩, .bool false, .int .i64 0, .bool false]), 6, 64) := by kernel_rfl
/-- Block p is the document's pool; its names lie at A. -/
structure IsRp (w : World) (p : Nat) (A : Option Addr) (c : Nat) (r : Cd) : Prop where
  cell : w.heap[p]? = some (.cells #[.slice A r.l.length c, .int .i64 r.use] 65 (0, 0))
  row : w.ownsRow 0 62 6 (.slice A r.l.length c) r.l.length (nmv r.l)
  small : r.l.length ≤ 100
  path : ∀ x ∈ r.l, -1 ≤ x.path
section
variable {w w' : World} {p : Nat} {A : Option Addr} {c : Nat} {r : Cd}
theorem IsRp.rd (h : IsRp w p A c r) : Rd w A (nmv r.l) := Rd.of_ownS h.row
theorem IsRp.lt (h : IsRp w p A c r) : p < w.heap.size := heap_lt h.cell
theorem IsRp.at (h : IsRp w p A c r) : A = none ∨ ∃ g, A = some ⟨g, 0, none⟩ ∧ p ≠ g ∧ g < w.heap.size := by
  rcases ownS_cases h.row with ⟨h1, _⟩ | ⟨g, h1, _, h3, _⟩
  · exact .inl h1
  · subst h1
    exact .inr ⟨g, rfl, own_typed h.row h.cell rfl, h3⟩
theorem IsRp.blk (h : IsRp w p A c r) (hl : 0 < r.l.length) : ∃ g, A = some ⟨g, 0, none⟩ ∧ p ≠ g ∧ g < w.heap.size := by
  rcases ownS_cases h.row with ⟨_, h1, _⟩ | ⟨g, h1, _, h3, _⟩
  · omega
  · subst h1
    exact ⟨g, rfl, own_typed h.row h.cell rfl, h3⟩
theorem IsRp.on_lt (h : IsRp w p A c r) : ∀ k, OnB p A k → k < w.heap.size := by
  rintro k (rfl | ⟨a, ha, rfl⟩)
  · exact h.lt
  · rcases h.at with h1 | ⟨g, h1, _, h3⟩
    · rw [h1] at ha; cases ha
    · rw [h1] at ha; injection ha with ha; subst ha; exact h3
theorem IsRp.fr {T : Nat → Prop} (h : IsRp w p A c r) (f : Fr T w w') (hT : ∀ k, OnB p A k → ¬ T k) : IsRp w' p A c r :=
  ⟨heap_fr h.cell f (hT p (.inl rfl)), own_fr h.row f (fun k hk => hT k (.inr (by
    cases A with
    | none => cases hk
    | some a => injection hk with hk; exact ⟨a, rfl, hk⟩))), h.small, h.path⟩
theorem IsRp.below (h : IsRp w p A c r) (b : Below w.heap.size w w') : IsRp w' p A c r := h.fr (Fr.of_below b NoS) (fun _ _ x => x)
theorem IsRp.drewN (h : IsRp w p A c r) (k : Nat) : IsRp (w.drewN k) p A c r := h.fr ((Fr.refl NoS w).drewN k) (fun _ _ x => x)
theorem IsRp.alloc (h : IsRp w p A c r) (o : Obj) : IsRp (w.alloc o) p A c r := h.below ((Below.refl _ w).alloc (Nat.le_refl _) o)
theorem load_nm {W : World} {l : List Nm} (hr : Rd W A (nmv l)) {k : Nat} (hk : k < l.length) :
    ∃ (b off : Nat), A = some ⟨b, off, none⟩ ∧ W.cell? ⟨b, off + k * 6, none⟩ = some (.int .u64 ((l[k]).seq : Int)) ∧ W.cell? ⟨b, off + k * 6 + 1, none⟩ = some (.string (sob (l[k]).id)) ∧ W.cell? ⟨b, off + k * 6 + 2, none⟩ = some (.string (sob (l[k]).tok)) ∧ W.cell? ⟨b, off + k * 6 + 3, none⟩ = some (.bool (!(l[k]).tok.isEmpty)) ∧
      W.cell? ⟨b, off + k * 6 + 4, none⟩ = some (.int .i64 (l[k]).path) ∧ W.cell? ⟨b, off + k * 6 + 5, none⟩ = some (.bool (l[k]).told) := by
  obtain ⟨b, off, e, h⟩ := rv_cell Nm.cells nmc (by omega) hr hk
  exact ⟨b, off, e, h 0 _ rfl, h 1 _ rfl, h 2 _ rfl, h 3 _ rfl, h 4 _ rfl, h 5 _ rfl⟩
theorem sob_eq (l m : List UInt8) : ((sob l).toList == (sob m).toList) = decide (l = m) := mk_bytes_eq l m

set_option maxHeartbeats 1000000 in
theorem rnew_no (A : Option Addr) (n c : Nat) (w : World) (hn : n ≠ 8) : Calls Try.prog 10 #[.slice A n c] w fun e w' => e = .returned (.pointer none) ∧ w = w' := by
  have b1 : ((n : Int) != 8) = true := by rw [bne_iff_ne]; omega
  go_enter Try.func10, Try.ntmps10
  go_wp2_with fail
  go_ret
  exact ⟨rfl, rfl⟩
set_option maxRecDepth 100000 in
set_option maxHeartbeats 4000000 in
theorem rnew_any (first : List UInt8) (A : Option Addr) (c : Nat) (w : World) (h8 : first.length = 8) (hr : Rd w A (bv first)) : Calls Try.prog 10 #[.slice A 8 c] w fun e w' =>
    ∃ p A' c', e = .returned (.pointer (some ⟨p, 0, none⟩)) ∧ w.heap.size ≤ p ∧ IsRp w' p A' c' (cnew first) ∧ Below w.heap.size w w' ∧ ∀ a, A' = some a → w.heap.size ≤ a.block := by
  obtain ⟨S, hS⟩ : ∃ S, sob first = S := ⟨_, rfl⟩
  have hcv : (convert 22 9 (.slice A 8 c)).run Try.prog w = .ok (.string S) w := by
    have := run_conv_bytes (P := Try.prog) (w := w) (src := 22) (dst := 9) Try.underlying22 Try.underlying5 Try.underlying9 (c := c) (l := first) hr
    rw [h8] at this
    rw [← hS]; exact this
  replace hS := Lib.hid hS
  clear hr h8
  go_enter Try.func10, Try.ntmps10
  go_wp2_with fail
  go_ret
  have hs1 : ∀ o, (w.alloc o).heap.size = w.heap.size + 1 := fun o => by simp
  refine ⟨w.heap.size + 1, some ⟨w.heap.size, 0, none⟩, 1, rfl, by omega, ⟨?_, ?_, by simp [cnew], fun x hx => by simp [cnew] at hx; subst hx; show (-1 : Int) ≤ 0; omega⟩, ((Below.refl _ w).alloc (Nat.le_refl _) _).alloc (by simp) _, fun a ha => by injection ha with ha; subst ha; exact Nat.le_refl _⟩
  · have := heap_alloc_new (w.alloc (.cells #[.int .u64 0, .string S, .string ⟨#[]⟩, .bool false, .int .i64 0, .bool false] 62)) (.cells #[.slice (some ⟨w.heap.size, 0, none⟩) 1 1, .int .i64 0] 65)
    rw [hs1] at this
    exact this
  · have := World.ownsRow_lit (base := 0) (e := 62) (size := 6) w #[.int .u64 0, .string S, .string ⟨#[]⟩, .bool false, .int .i64 0, .bool false] 1 (Nat.zero_le _) (by simp [maxLen]) rfl
    have e : nmv (cnew first).l = [.int .u64 0, .string S, .string ⟨#[]⟩, .bool false, .int .i64 0, .bool false] := by
      rw [← hS.out]; rfl
    rw [e]
    exact own_fr this ((Fr.refl NoS _).alloc _) (fun _ _ x => x)

def rfn (l : List Nm) (k : Nat) : Nat := cfree (l.take k)
theorem rfn_succ {l : List Nm} {k : Nat} (hk : k < l.length) : rfn l (k + 1) = rfn l k + if (l[k]).path = -1 then 1 else 0 := by
  unfold rfn cfree
  rw [List.take_succ_eq_append_getElem hk, List.countP_append, List.countP_singleton]
  unfold Nm.free
  by_cases h : (l[k]).path = -1 <;> simp [h]
theorem rfn_le (l : List Nm) (k : Nat) : rfn l k ≤ k := by
  unfold rfn cfree
  refine Nat.le_trans List.countP_le_length ?_
  rw [List.length_take]; omega
set_option maxRecDepth 100000 in
set_option maxHeartbeats 4000000 in
theorem rfree_any (h : IsRp w p A c r) : Calls Try.prog 22 #[.pointer (some ⟨p, 0, none⟩)] w fun e w' => e = .returned (.int .i64 (cfree r.l : Nat)) ∧ w = w' := by
  have c0 := wrote_cell h.cell 0 _ rfl
  have hr := Lib.hid h.rd
  have hsm := h.small
  have hpt := Lib.hid h.path
  obtain ⟨L, hL⟩ : ∃ L, r.l.length = L := ⟨_, rfl⟩
  rw [hL] at c0 hsm
  have he : Hid (cfree r.l = rfn r.l L) := Lib.hid (by unfold rfn; rw [← hL, List.take_length])
  rw [he.out]
  clear h he
  replace hL := Lib.hid hL
  go_enter Try.func22, Try.ntmps22
  go_wp2_with fail
  go_loop [3, 4] (fun n i => ∃ k : Nat, k ≤ L ∧ n = .int .i64 (rfn r.l k : Nat) ∧ i = .int .i64 k) (fun _ i => L - (intOf i).toNat)
  case atStart => exact ⟨0, by omega, rfl, rfl⟩
  case round =>
    obtain ⟨k, hk, rfl, rfl⟩ := hrel
    by_cases hkl : k < L
    · rename_i aa; clear aa
      have hkl2 : k < r.l.length := by rw [hL.out]; exact hkl
      have hpp := hpt.out _ (List.getElem_mem hkl2)
      obtain ⟨b, off, rfl, l0, l1, l2, l3, l4, l5⟩ := load_nm hr.out hkl2
      have hs := rfn_succ hkl2
      have hle := rfn_le r.l k
      obtain ⟨q4, hq4⟩ : ∃ q, (r.l[k]).path = q := ⟨_, rfl⟩
      obtain ⟨n, hn⟩ : ∃ n, rfn r.l k = n := ⟨_, rfl⟩
      rw [hn, hq4] at hs
      rw [hn] at hle
      rw [hq4] at l4 hpp
      rw [hn]
      clear hq4 l0 l1 l2 l3 l5 hkl2
      by_cases hp : q4 = -1
      · subst hp
        rw [if_pos rfl] at hs
        replace hs := Lib.hid hs
        replace hn := Lib.hid hn
        go_wp2_with fail
        go_round
        case rel => exact ⟨k + 1, by omega, by rw [hs.out]; go_num, by go_num⟩
        case measure => simp [intOf] <;> omega
      · have d1 : decide (q4 < 0) = false := decide_eq_false (by omega)
        rw [if_neg hp] at hs
        replace hs := Lib.hid hs
        replace hn := Lib.hid hn
        clear hp
        go_wp2_with fail
        go_round
        case rel => exact ⟨k + 1, by omega, by rw [hs.out]; rfl, by go_num⟩
        case measure => simp [intOf] <;> omega
    · have hk' : k = L := by omega
      subst hk'
      go_wp2_with fail
      go_ret
      exact ⟨rfl, rfl⟩

def rtk (t : List UInt8) (x : Nm) : Bool := decide (x.path ≠ -1 ∧ x.tok ≠ [] ∧ x.tok = t)
set_option maxRecDepth 100000 in
set_option maxHeartbeats 4000000 in
theorem rtok_any (h : IsRp w p A c r) (t : List UInt8) (B : Option Addr) (m d : Nat) (hm : t.length = m) (ht : Rd w B (bv t)) :
    Calls Try.prog 24 #[.pointer (some ⟨p, 0, none⟩), .slice B m d] w fun e w' => e = .returned (.bool (ctok r.l t)) ∧ Still w w' := by
  have c0 := wrote_cell h.cell 0 _ rfl
  have hr := Lib.hid h.rd
  have hsm := h.small
  have hpt := Lib.hid h.path
  obtain ⟨L, hL⟩ : ∃ L, r.l.length = L := ⟨_, rfl⟩
  rw [hL] at c0 hsm
  obtain ⟨S, hS⟩ : ∃ S, sob t = S := ⟨_, rfl⟩
  have hcv : ∀ q, (convert 22 9 (.slice B m d)).run Try.prog (w.drewN q) = .ok (.string S) (w.drewN q) := fun q => by
    have := run_conv_bytes (P := Try.prog) (w := w.drewN q) (src := 22) (dst := 9) Try.underlying22 Try.underlying5 Try.underlying9 (c := d) (l := t) (ht.drewN q)
    rw [hm] at this
    rw [← hS]; exact this
  obtain ⟨V, hV⟩ : ∃ V, ctok r.l t = V := ⟨_, rfl⟩
  rw [hV]
  have hyes : Hid (∀ x ∈ r.l, rtk t x = true → V = true) := Lib.hid (fun x hx hq => by rw [← hV]; exact List.any_eq_true.2 ⟨x, hx, hq⟩)
  have hnone : Hid ((∀ (j : Nat) (y : Nm), j < L → r.l[j]? = some y → rtk t y = false) → V = false) := Lib.hid (fun hall => by
    rw [← hV]
    refine List.any_eq_false.2 (fun x hx => ?_)
    obtain ⟨j, hj, rfl⟩ := List.getElem_of_mem hx
    have := hall j _ (by rw [← hL]; exact hj) (List.getElem?_eq_getElem hj)
    unfold rtk at this
    rw [this]; simp)
  replace hL := Lib.hid hL
  replace hS := Lib.hid hS
  clear h hV ht
  go_enter Try.func24, Try.ntmps24
  go_wp2_with fail
  go_loopw [5] (fun i wr => ∃ k q : Nat, k ≤ L ∧ i = .int .i64 k ∧ wr = w.drewN q ∧ Hid (∀ (j : Nat) (y : Nm), j < k → r.l[j]? = some y → rtk t y = false)) (fun i _ => L - (intOf i).toNat)
  case atStart => exact ⟨0, 0, by omega, rfl, rfl, Lib.hid (fun j y hj => absurd hj (by omega))⟩
  case round =>
    obtain ⟨k, q, hk, rfl, rfl, HT⟩ := hrel
    by_cases hkl : k < L
    · rename_i aa; clear aa
      have hkl2 : k < r.l.length := by rw [hL.out]; exact hkl
      have hpp := hpt.out _ (List.getElem_mem hkl2)
      have hyy := hyes.out _ (List.getElem_mem hkl2)
      obtain ⟨b, off, rfl, l0, l1, l2, l3, l4, l5⟩ := load_nm hr.out hkl2
      have hk0 : (0 : Int) ≤ (k : Int) := by omega
      have hki : (k : Int) < (L : Int) := by omega
      obtain ⟨y, hy⟩ : ∃ y, r.l[k] = y := ⟨_, rfl⟩
      have hy' : Hid (r.l[k]? = some y) := Lib.hid (by rw [List.getElem?_eq_getElem hkl2, hy])
      rw [hy] at l2 l3 l4 hpp hyy
      have e1 : decide (0 ≤ y.path) = decide (y.path ≠ -1) := by
        by_cases h : y.path = -1
        · rw [h]; rfl
        · rw [decide_eq_true h]; exact decide_eq_true (by omega)
      have e2 : (!y.tok.isEmpty) = decide (y.tok ≠ []) := by
        rcases y.tok with _ | ⟨a, z⟩
        · rfl
        · simp
      have e3 : ((sob y.tok).toList == S.toList) = decide (y.tok = t) := by rw [← hS.out]; exact sob_eq _ _
      have er : rtk t y = (decide (y.path ≠ -1) && (decide (y.tok ≠ []) && decide (y.tok = t))) := by unfold rtk; simp only [Bool.decide_and]
      rw [e2] at l3
      obtain ⟨b1, hb1⟩ : ∃ b, decide (y.path ≠ -1) = b := ⟨_, rfl⟩
      obtain ⟨b2, hb2⟩ : ∃ b, decide (y.tok ≠ []) = b := ⟨_, rfl⟩
      obtain ⟨b3, hb3⟩ : ∃ b, decide (y.tok = t) = b := ⟨_, rfl⟩
      obtain ⟨T, hT⟩ : ∃ T, sob y.tok = T := ⟨_, rfl⟩
      obtain ⟨pt, hpt2⟩ : ∃ z, y.path = z := ⟨_, rfl⟩
      rw [hb1] at e1 er
      rw [hb2] at l3 er
      rw [hT] at l2 e3
      rw [hb3] at e3 er
      rw [hpt2] at l4 e1
      rw [er] at hyy
      replace er := Lib.hid er
      replace hyy := Lib.hid hyy
      have hcvq := fun q2 => hcv (q + q2)
      clear hy hpp hb1 hb2 hb3 hT hpt2 e2 l0 l1 l5 hkl2
      cases b1 with
      | false =>
        go_wp2_with fail
        go_quiet (fail)
        go_wp2_with fail
        go_roundw
        case rel => exact ⟨k + 1, q + nq, by omega, by go_num, rfl, Lib.hid (fun j z hj hz => by
            rcases Nat.lt_or_ge j k with h | h
            · exact HT.out j z h hz
            · have : j = k := by omega
              subst this
              rw [hy'.out] at hz; injection hz with hz; rw [← hz, er.out]; rfl)⟩
        case measure => simp [intOf] <;> omega
      | true =>
        cases b2 with
        | false =>
          go_wp2_with fail
          go_quiet (fail)
          go_wp2_with fail
          go_roundw
          case rel => exact ⟨k + 1, q + nq, by omega, by go_num, rfl, Lib.hid (fun j z hj hz => by
              rcases Nat.lt_or_ge j k with h | h
              · exact HT.out j z h hz
              · have : j = k := by omega
                subst this
                rw [hy'.out] at hz; injection hz with hz; rw [← hz, er.out]; rfl)⟩
          case measure => simp [intOf] <;> omega
        | true =>
          cases b3 with
          | false =>
            go_wp2_with fail
            go_quiet (fail)
            go_wp2_with fail
            go_roundw
            case rel => exact ⟨k + 1, q + nq, by omega, by go_num, rfl, Lib.hid (fun j z hj hz => by
                rcases Nat.lt_or_ge j k with h | h
                · exact HT.out j z h hz
                · have : j = k := by omega
                  subst this
                  rw [hy'.out] at hz; injection hz with hz; rw [← hz, er.out]; rfl)⟩
            case measure => simp [intOf] <;> omega
          | true =>
            obtain rfl : V = true := hyy.out rfl
            go_wp2_with fail
            go_quiet (fail)
            go_wp2_with fail
            go_ret
            exact ⟨rfl, (Still.drewN w q).trans (Still.drewN _ nq)⟩
    · have hk' : k = L := by omega
      subst hk'
      obtain rfl : V = false := hnone.out HT.out
      go_wp2_with fail
      go_ret
      exact ⟨rfl, Still.drewN w q⟩
end
end Go.Proofs.Ytgmanhbfdjlhbaa
