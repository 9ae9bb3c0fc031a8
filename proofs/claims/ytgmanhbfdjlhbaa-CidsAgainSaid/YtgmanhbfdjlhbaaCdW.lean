/- CidsAgain: the walk; it is true at every input. (Printed by gen_cdW.py.) -/
import Derived.Test.YtgmanhbfdjlhbaaCdT
import Derived.Test.YtgmanhbfdjlhbaaArrB
import Derived.Lib.SlBytesConst
namespace Go.Proofs.Ytgmanhbfdjlhbaa
open Go.RowKit

def ga1 : List UInt8 := [116, 104, 101, 45, 110, 97, 109, 101]
def gai (k : Nat) : List UInt8 := growl 8 (100 + k)
def gat (k : Nat) : List UInt8 := growl 16 (200 + k)
def gst (hv : Nat → Bool) : Cd := ast ga1 gai gat hv
def gcn (hv : Nat → Bool) : Nat := ((List.range 16).filter hv).length
theorem ga_ne1 : ∀ k, k < 16 → ga1 ≠ gai k := by decide +kernel
theorem ga_ne : ∀ i, i < 16 → ∀ j, j < 16 → i ≠ j → gai i ≠ gai j := by decide +kernel
theorem ga_id3 : ∀ i, i < 16 → ∀ k, k < 16 → gai i ≠ growl 8 (300 + k) := by decide +kernel
theorem ga_tok3 : ∀ k, k < 16 → gat k ≠ growl 16 (300 + k) := by decide +kernel
theorem ga_start : cnew ga1 = gst (fun _ => false) := by rfl
theorem gcn_zero : gcn (fun _ => false) = 0 := by rfl
theorem gcn_le (hv : Nat → Bool) : gcn hv ≤ 16 := by
  unfold gcn
  exact Nat.le_trans (List.length_filter_le _ _) (by simp)
theorem gst_len (hv : Nat → Bool) : (gst hv).l.length = gcn hv + 1 := by
  unfold gst ast gcn; rw [List.length_cons, List.length_map]
theorem gst_free (hv : Nat → Bool) : cfree (gst hv).l = gcn hv := ast_free (first := ga1) (ids := gai) (toks := gat)
theorem filter_new (hv : Nat → Bool) (k : Nat) (hk : hv k = false) : ∀ n, ((List.range n).filter fun j => hv j || j == k).length = ((List.range n).filter hv).length + if k < n then 1 else 0
  | 0 => by simp
  | n + 1 => by
    rw [List.range_succ, List.filter_append, List.filter_append, List.length_append, List.length_append, filter_new hv k hk n]
    by_cases h : n = k
    · subst h
      simp [hk]
    · have e1 : [n].filter (fun j => hv j || j == k) = [n].filter hv := by
        rw [List.filter_cons, List.filter_cons]
        simp [h]
      rw [e1]
      by_cases h2 : k < n
      · rw [if_pos h2, if_pos (by omega)]; omega
      · rw [if_neg h2, if_neg (by omega)]; omega
theorem gcn_new {hv : Nat → Bool} {k : Nat} (hk : k < 16) (h : hv k = false) : gcn (fun j => hv j || j == k) = gcn hv + 1 := by
  unfold gcn; rw [filter_new hv k h 16, if_pos hk]
section
variable {hv : Nat → Bool} {k : Nat}
theorem ga_same (hk : k < 16) (h : hv k = true) : cadd (gst hv) (k + 1) (gai k) (gat k) = gst hv ∧ caddE (gst hv).l (k + 1) (gai k) (gat k) = 0 := ast_same hk h (by simp [gai]) (by simp [gat])
theorem ga_add (hk : k < 16) (h : hv k = false) (hc : gcn hv ≠ 8) : cadd (gst hv) (k + 1) (gai k) (gat k) = gst (fun j => hv j || j == k) ∧ caddE (gst hv).l (k + 1) (gai k) (gat k) = 0 :=
  ast_add hk h hc (by simp [gai]) (by simp [gat]) (ga_ne1 k hk) (fun j hj hvj => ga_ne j hj k hk (fun e => by rw [e, h] at hvj; cases hvj))
theorem ga_full (hk : k < 16) (h : hv k = false) (hc : gcn hv = 8) : cadd (gst hv) (k + 1) (gai k) (gat k) = gst hv ∧ caddE (gst hv).l (k + 1) (gai k) (gat k) = 9 :=
  ast_full h hc (by simp [gai]) (by simp [gat]) (ga_ne1 k hk) (fun j hj hvj => ga_ne j hj k hk (fun e => by rw [e, h] at hvj; cases hvj))
theorem ga_c1 (hk : k < 16) (h : hv k = true) : cadd (gst hv) (k + 1) (gai k) (growl 16 (300 + k)) = gst hv ∧ caddE (gst hv).l (k + 1) (gai k) (growl 16 (300 + k)) = 12 :=
  ast_clash hk h (by simp [gai]) (by simp) (.inl rfl) (fun x hx e => by
    rcases ast_mem.1 hx with rfl | ⟨j, hj, _, rfl⟩
    · have := e.1; simp at this
    · have e1 : j + 1 = k + 1 := e.1
      have : j = k := by omega
      subst this
      exact ga_tok3 j hj e.2.2)
theorem ga_c2 (hk : k < 16) (h : hv k = true) : cadd (gst hv) (k + 1) (growl 8 (300 + k)) (gat k) = gst hv ∧ caddE (gst hv).l (k + 1) (growl 8 (300 + k)) (gat k) = 12 :=
  ast_clash hk h (by simp) (by simp [gat]) (.inl rfl) (fun x hx e => by
    rcases ast_mem.1 hx with rfl | ⟨j, hj, _, rfl⟩
    · have := e.1; simp at this
    · exact ga_id3 j hj k hk e.2.1)
theorem ga_c3 (hk : k < 16) (h : hv k = true) : cadd (gst hv) 99 (gai k) (gat k) = gst hv ∧ caddE (gst hv).l 99 (gai k) (gat k) = 12 :=
  ast_clash hk h (by simp [gai]) (by simp [gat]) (.inr rfl) (fun x hx e => by
    rcases ast_mem.1 hx with rfl | ⟨j, hj, _, rfl⟩
    · have := e.1; simp at this
    · have e1 : j + 1 = 99 := e.1
      omega)
theorem ga_form (q : Nat) (c t : List UInt8) (h : c.length = 7) : cadd (gst hv) q c t = gst hv ∧ caddE (gst hv).l q c t = 5 := by
  have hf : ¬ (c.length = 8 ∧ t.length = 16) := by omega
  refine ⟨?_, ?_⟩
  · unfold cadd caddN; rw [decide_eq_false hf]; rfl
  · unfold caddE; rw [if_pos (by omega)]
end
/-- The pool, and what was added. -/
structure GS (w : World) (p g cn : Nat) (W : World) (hv : Nat → Bool) : Prop where
  at_ : At OC (fun k => k < w.heap.size ∨ k = g) W p (gst hv)
  arr : AtArrB 53 0 W g 16 hv
  bel : Below w.heap.size w W
  cnt : gcn hv = cn
  le : cn ≤ 8
section
variable {w W W' : World} {p g cn : Nat} {hv : Nat → Bool}
theorem GS.below (h : GS w p g cn W hv) (b : Below W.heap.size W W') : GS w p g cn W' hv := ⟨h.at_.below okC b, h.arr.below b, h.bel.trans (b.mono h.bel.size), h.cnt, h.le⟩
theorem GS.put (h : GS w p g cn W hv) {k : Nat} (hg : w.heap.size ≤ g) : At OC (fun k => k < w.heap.size ∨ k = g) (W.setCell ⟨g, k, none⟩ (.bool true)) p (gst hv) ∧ AtArrB 53 0 (W.setCell ⟨g, k, none⟩ (.bool true)) g 16 (fun j => hv j || j == k) ∧ Below w.heap.size w (W.setCell ⟨g, k, none⟩ (.bool true)) := by
  have F : Fr (fun j => j = g) W (W.setCell ⟨g, k, none⟩ (.bool true)) := (Fr.refl (fun j => j = g) W).setCell (p := ⟨g, k, none⟩) (fun _ => rfl) _
  refine ⟨h.at_.fr okC F (fun j _ hj => .inr hj), ?_, Fr.under h.bel h.bel.size F (fun j hj _ => by omega)⟩
  have := h.arr.put k true
  have e : (fun y => if y = k then true else hv y) = fun j => hv j || j == k := by
    funext y
    by_cases e : y = k
    · subst e; simp
    · simp [e]
  rwa [e] at this
/-- Add, where the list stays. -/
theorem GS.add (h : GS w p g cn W hv) (v : Int) (q : Nat) (cid tok : List UInt8) (C B : Option Addr) (nc nb cc cb : Nat) (hnc : cid.length = nc) (hnb : tok.length = nb) (hC : Rd W C (bv cid)) (hB : Rd W B (bv tok)) (e : cadd (gst hv) q cid tok = gst hv ∧ caddE (gst hv).l q cid tok = v) :
    Calls Try.prog 11 #[.pointer (some ⟨p, 0, none⟩), .int .u64 (q : Int), .slice C nc cc, .slice B nb cb] W fun e w' => e = .returned (.int .i64 v) ∧ GS w p g cn w' hv := by
  refine (cadd_at v (gst hv) h.at_ q cid tok C B nc nb cc cb hnc hnb hC hB (by rw [gst_len, h.cnt]; have := h.le; omega) e.2 e.1).mono ?_
  rintro e w' ⟨rfl, H2, F2⟩
  exact ⟨rfl, H2, h.arr.fr F2 (fun hk => hk (.inr rfl)), fp_below h.bel h.bel.size (fun _ hk => .inl hk) F2, h.cnt, h.le⟩
theorem GS.free (h : GS w p g cn W hv) : Calls Try.prog 12 #[.pointer (some ⟨p, 0, none⟩)] W fun e w' => e = .returned (.int .i64 cn) ∧ GS w p g cn w' hv := by
  refine (cfree_at cn h.at_ (by rw [gst_free]; exact h.cnt)).mono ?_
  rintro e w' ⟨rfl, b⟩
  exact ⟨rfl, h.below b⟩
theorem GS.start {W0 : World} (H : At OC (fun k => k < w.heap.size) W0 p (cnew ga1)) (hb : Below w.heap.size w W0) (o : Obj) (ho : o = .cells (tb 16 (fun _ => false)).toArray 53) : GS w p W0.heap.size 0 (W0.alloc o) (fun _ => false) := by
  subst ho
  refine ⟨?_, ?_, hb.alloc hb.size _, gcn_zero, by omega⟩
  · rw [← ga_start]
    exact H.widen okC (fun k hk => by rcases hk with hk | hk
                                      · exact .inl hk
                                      · exact .inr (by omega)) ((Below.refl _ W0).alloc (Nat.le_refl _) _) (fun k hk => by
      have := hb.size
      rcases hk with hk | hk
      · simp; omega
      · simp; omega)
  · have := AtArrB.new 53 W0 16 (by omega) _ rfl
    exact own_base this (fun _ _ => Nat.zero_le _)
end

set_option maxRecDepth 100000 in
set_option maxHeartbeats 8000000 in
theorem again_in (l : List Int) (n cn0 : Nat) (A : Option Addr) (w : World) (hn : l.length = n) (hr : Rd w A (l.map (Value.int .i64))) (hn2 : n ≤ 9223372036854775807) :
    Calls Try.prog 7 #[.slice A n cn0] w fun e w' => e = .returned (.bool true) ∧ Below w.heap.size w w' := by
  have CG8 := Lib.hid (fun (j : Nat) (hj : j ≤ 400) w => grow_any 8 j w (by omega) (by omega))
  have CG16 := Lib.hid (fun (j : Nat) (hj : j ≤ 400) w => grow_any 16 j w (by omega) (by omega))
  have kc := fun (w : World) (C : Array Value) (n c : Nat) => Lib.run_convert_bytes_const (P := Try.prog) w 22 5 C n c Try.underlying22 Try.underlying5
  replace hr := Lib.hid hr
  replace hn := Lib.hid hn
  go_enter Try.func7, Try.ntmps7
  by_cases hn20 : 20 < n
  · have d0 : decide (20 < (n : Int)) = true := decide_eq_true (by omega)
    have d0n : decide (20 < n) = true := decide_eq_true hn20
    go_wp2_with fail
    refine (awake_any w).mono ?_
    rintro e w5 ⟨rfl, b5⟩
    replace b5 := Lib.hid b5
    go_wp2_with fail
    go_ret
    exact ⟨rfl, b5.out⟩
  · have d0 : decide (20 < (n : Int)) = false := decide_eq_false (by omega)
    have d0n : decide (20 < n) = false := decide_eq_false hn20
    have hn3 : n ≤ 20 := by omega
    clear hn20 hn2
    go_wp2_with fail
    refine (cnew_at (P := fun k => k < w.heap.size) (fun k hk => by simp; omega) ga1 (some ⟨w.heap.size, 0, none⟩) 8 rfl (by have := Rd.fresh_mark w (bv ga1) 5 (8, 9); exact this)).mono ?_
    rintro e w2 ⟨p, rfl, H, b2, _⟩
    have hb2 : Below w.heap.size w w2 := ((Below.refl _ w).alloc (Nat.le_refl _) _).trans (b2.mono (by simp))
    have PS0 := Lib.hid (GS.start H hb2)
    have hgg : Hid (w.heap.size ≤ w2.heap.size) := Lib.hid hb2.size
    clear H b2 hb2 kc d0 d0n
    go_wp2_with fail
    obtain ⟨g, hg⟩ : ∃ g, w2.heap.size = g := ⟨_, rfl⟩
    rw [hg] at PS0 hgg ⊢
    have PS1 : Hid (∀ o, o = .cells (tb 16 (fun _ => false)).toArray 53 → GS w p g 0 (w2.alloc o) (fun _ => false)) := PS0
    have PS2 := Lib.hid (PS1.out (.cells #[.bool false, .bool false, .bool false, .bool false, .bool false, .bool false, .bool false, .bool false, .bool false, .bool false, .bool false, .bool false, .bool false, .bool false, .bool false, .bool false] 53) rfl)
    obtain ⟨W0, hW0⟩ : ∃ W0, w2.alloc (.cells #[.bool false, .bool false, .bool false, .bool false, .bool false, .bool false, .bool false, .bool false, .bool false, .bool false, .bool false, .bool false, .bool false, .bool false, .bool false, .bool false] 53) = W0 := ⟨_, rfl⟩
    rw [hW0] at PS2 ⊢
    clear PS0 PS1 hg hW0
    go_loopw [5, 6, 7, 8, 9, 10, 11, 12] (fun cn i _ _ _ _ _ _ wq => ∃ (j c : Nat), j ≤ n ∧ cn = .int .i64 c ∧ i = .int .i64 j ∧ c ≤ 8 ∧ Hid (∃ hv, GS w p g c wq hv)) (fun _ i _ _ _ _ _ _ _ => n - (intOf i).toNat)
    case atStart => exact ⟨0, 0, by omega, rfl, rfl, by omega, Lib.hid ⟨_, PS2.out⟩⟩
    case round =>
      clear PS2
      obtain ⟨j, c, hj, rfl, rfl, hc8, HP⟩ := hrel
      by_cases hjn : j < n
      · rename_i aa; clear aa
        have hjl : j < l.length := by rw [hn.out]; exact hjn
        obtain ⟨hv, HM⟩ := HP.out
        obtain ⟨bA, oA, rfl, z0⟩ := ((hr.out.fr (Fr.of_below HM.bel NoS) (fun _ _ _ x => x)).at_ (k := j) (by simpa using hjl))
        rw [List.getElem_map] at z0
        obtain ⟨x, hx⟩ : ∃ x, l[j] = x := ⟨_, rfl⟩
        rw [hx] at z0
        clear hx hjl HP
        obtain ⟨N, hN64, D⟩ := low_ex x 64 (by omega) (by omega)
        have hj0 : (0 : Int) ≤ (j : Int) := by omega
        have hji : (j : Int) < (n : Int) := by omega
        obtain ⟨k, hkN⟩ : ∃ k, N % 16 = k := ⟨_, rfl⟩
        obtain ⟨d, hdN⟩ : ∃ d, N / 16 = d := ⟨_, rfl⟩
        have hk16 : k < 16 := by omega
        have hd4 : d < 4 := by omega
        have m1 : IntKind.i64.wrap ((N : Int).tmod 16) = (k : Int) := by rw [Int.tmod_eq_emod_of_nonneg (by omega), IntKind.wrap_i64]; omega
        have m1' : (N : Int).tmod 16 = (k : Int) := by rw [Int.tmod_eq_emod_of_nonneg (by omega)]; omega
        have m1'' : (N : Int) % 16 = (k : Int) := by omega
        have m2 : IntKind.i64.wrap ((N : Int).tdiv 16) = (d : Int) := by rw [Int.tdiv_eq_ediv_of_nonneg (by omega), IntKind.wrap_i64]; omega
        have m2' : (N : Int).tdiv 16 = (d : Int) := by rw [Int.tdiv_eq_ediv_of_nonneg (by omega)]; omega
        have m2'' : (N : Int) / 16 = (d : Int) := by omega
        replace D := Lib.hid D
        clear hkN hdN
        have ga : wr.cell? ⟨g, k, none⟩ = some (.bool (hv k)) := HM.arr.cell hk16
        have hglt : Hid (g < wr.heap.size) := Lib.hid (World.block_lt_of_cell? wr _ ga)
        have hki : (k : Int) < 16 := by omega
        have hk0 : (0 : Int) ≤ (k : Int) := by omega
        replace HM := Lib.hid HM
        clear ga
        go_wp2_with fail
        refine (D.out _).mono ?_
        rintro e w' ⟨rfl, rfl⟩
        clear D z0
        go_wp2_with fail
        refine (CG8.out (100 + k) (by omega) _).mono ?_
        rintro e w3 ⟨A3, c3, rfl, o3, b3⟩
        have R3 := Lib.hid (Rd.of_own o3)
        replace HM := Lib.hid (HM.out.below b3)
        have hcp3 := Lib.hid (RetS.cap o3)
        have hA3 : Hid (∀ a, A3 = some a → a.block ≠ g) := Lib.hid (fun a ha e => by
          have h1 := (o3.lt a.block (by rw [ha]; rfl)).1
          have h2 := hglt.out
          omega)
        have hs3 : Hid (wr.heap.size ≤ w3.heap.size) := Lib.hid b3.size
        clear o3 b3
        go_wp2_with fail
        refine (CG16.out (200 + k) (by omega) _).mono ?_
        rintro e w4 ⟨A4, c4, rfl, o4, b4⟩
        have R4 := Lib.hid (Rd.of_own o4)
        replace R3 := Lib.hid (R3.out.below b4)
        replace HM := Lib.hid (HM.out.below b4)
        have hA4 : Hid (∀ a, A4 = some a → a.block ≠ g) := Lib.hid (fun a ha e => by
          have h1 := (o4.lt a.block (by rw [ha]; rfl)).1
          have h2 := hglt.out
          have h3 := hs3.out
          omega)
        clear o4 b4 m1 m1' m1''
        have ga : w4.cell? ⟨g, k, none⟩ = some (.bool (hv k)) := HM.out.arr.cell hk16
        have hcnt := HM.out.cnt
        have hd : d = 0 ∨ d = 1 ∨ d = 2 ∨ d = 3 := by omega
        have hS : (k : Int) + 1 = ((k + 1 : Nat) : Int) := by omega
        clear hS
        by_cases hvk : hv k = true
        · rw [hvk] at ga
          replace hvk := Lib.hid hvk
          clear hcnt
          rcases hd with hd | hd | hd | hd
          · have e0 : ((d : Int) == 0) = true := beq_iff_eq.2 (by omega)
            have e1 : ((d : Int) == 1) = false := beq_eq_false_iff_ne.2 (by omega)
            have e2 : ((d : Int) == 2) = false := beq_eq_false_iff_ne.2 (by omega)
            have e3 : ((d : Int) == 3) = false := beq_eq_false_iff_ne.2 (by omega)
            go_wp2_with fail
            refine (HM.out.add 0 (k + 1) (gai k) (gat k) A3 A4 8 16 c3 c4 (by simp [gai]) (by simp [gat]) R3.out R4.out (ga_same hk16 hvk.out)).mono ?_
            rintro e w6 ⟨rfl, HM⟩
            replace HM := Lib.hid HM
            go_wp2_with fail
            refine HM.out.free.mono ?_
            rintro e w7 ⟨rfl, HM⟩
            replace HM := Lib.hid HM
            go_wp2_with fail
            go_roundw
            case rel => exact ⟨j + 1, c, by omega, by first | rfl | go_num, by go_num, hc8, Lib.hid ⟨_, HM.out⟩⟩
            case measure => simp [intOf] <;> omega
          · have e0 : ((d : Int) == 0) = false := beq_eq_false_iff_ne.2 (by omega)
            have e1 : ((d : Int) == 1) = true := beq_iff_eq.2 (by omega)
            have e2 : ((d : Int) == 2) = false := beq_eq_false_iff_ne.2 (by omega)
            have e3 : ((d : Int) == 3) = false := beq_eq_false_iff_ne.2 (by omega)
            go_wp2_with fail
            refine (CG16.out (300 + k) (by omega) _).mono ?_
            rintro e w5 ⟨A5, c5, rfl, o5, b5⟩
            have R5 := Lib.hid (Rd.of_own o5)
            replace R3 := Lib.hid (R3.out.below b5)
            replace HM := Lib.hid (HM.out.below b5)
            have ga5 : w5.cell? ⟨g, k, none⟩ = some (.bool true) := (b5.cell (World.block_lt_of_cell? w4 _ ga)).trans ga
            clear o5 b5
            go_wp2_with fail
            refine (HM.out.add 12 (k + 1) (gai k) (growl 16 (300 + k)) A3 A5 8 16 c3 c5 (by simp [gai]) (by simp) R3.out R5.out (ga_c1 hk16 hvk.out)).mono ?_
            rintro e w6 ⟨rfl, HM⟩
            replace HM := Lib.hid HM
            go_wp2_with fail
            refine HM.out.free.mono ?_
            rintro e w7 ⟨rfl, HM⟩
            replace HM := Lib.hid HM
            go_wp2_with fail
            go_roundw
            case rel => exact ⟨j + 1, c, by omega, by first | rfl | go_num, by go_num, hc8, Lib.hid ⟨_, HM.out⟩⟩
            case measure => simp [intOf] <;> omega
          · have e0 : ((d : Int) == 0) = false := beq_eq_false_iff_ne.2 (by omega)
            have e1 : ((d : Int) == 1) = false := beq_eq_false_iff_ne.2 (by omega)
            have e2 : ((d : Int) == 2) = true := beq_iff_eq.2 (by omega)
            have e3 : ((d : Int) == 3) = false := beq_eq_false_iff_ne.2 (by omega)
            go_wp2_with fail
            refine (CG8.out (300 + k) (by omega) _).mono ?_
            rintro e w5 ⟨A5, c5, rfl, o5, b5⟩
            have R5 := Lib.hid (Rd.of_own o5)
            replace R4 := Lib.hid (R4.out.below b5)
            replace HM := Lib.hid (HM.out.below b5)
            have ga5 : w5.cell? ⟨g, k, none⟩ = some (.bool true) := (b5.cell (World.block_lt_of_cell? w4 _ ga)).trans ga
            clear o5 b5
            go_wp2_with fail
            refine (HM.out.add 12 (k + 1) (growl 8 (300 + k)) (gat k) A5 A4 8 16 c5 c4 (by simp) (by simp [gat]) R5.out R4.out (ga_c2 hk16 hvk.out)).mono ?_
            rintro e w6 ⟨rfl, HM⟩
            replace HM := Lib.hid HM
            go_wp2_with fail
            refine HM.out.free.mono ?_
            rintro e w7 ⟨rfl, HM⟩
            replace HM := Lib.hid HM
            go_wp2_with fail
            go_roundw
            case rel => exact ⟨j + 1, c, by omega, by first | rfl | go_num, by go_num, hc8, Lib.hid ⟨_, HM.out⟩⟩
            case measure => simp [intOf] <;> omega
          · have e0 : ((d : Int) == 0) = false := beq_eq_false_iff_ne.2 (by omega)
            have e1 : ((d : Int) == 1) = false := beq_eq_false_iff_ne.2 (by omega)
            have e2 : ((d : Int) == 2) = false := beq_eq_false_iff_ne.2 (by omega)
            have e3 : ((d : Int) == 3) = true := beq_iff_eq.2 (by omega)
            go_wp2_with fail
            refine (HM.out.add 12 99 (gai k) (gat k) A3 A4 8 16 c3 c4 (by simp [gai]) (by simp [gat]) R3.out R4.out (ga_c3 hk16 hvk.out)).mono ?_
            rintro e w6 ⟨rfl, HM⟩
            replace HM := Lib.hid HM
            go_wp2_with fail
            refine HM.out.free.mono ?_
            rintro e w7 ⟨rfl, HM⟩
            replace HM := Lib.hid HM
            go_wp2_with fail
            go_roundw
            case rel => exact ⟨j + 1, c, by omega, by first | rfl | go_num, by go_num, hc8, Lib.hid ⟨_, HM.out⟩⟩
            case measure => simp [intOf] <;> omega
        · replace hvk : hv k = false := by simpa using hvk
          rw [hvk] at ga
          rcases hd with hd | hd | hd | hd
          · have e0 : ((d : Int) == 0) = true := beq_iff_eq.2 (by omega)
            have e1 : ((d : Int) == 1) = false := beq_eq_false_iff_ne.2 (by omega)
            have e2 : ((d : Int) == 2) = false := beq_eq_false_iff_ne.2 (by omega)
            have e3 : ((d : Int) == 3) = false := beq_eq_false_iff_ne.2 (by omega)
            by_cases hc7 : c < 8
            · have dc : decide ((c : Int) < 8) = true := decide_eq_true (by omega)
              have dcn : decide (c < 8) = true := decide_eq_true hc7
              have fz : w4.frozen? ⟨g, k, none⟩ = false := HM.out.arr.frozen k
              obtain ⟨q1, q2, q3⟩ := HM.out.put (k := k) hgg.out
              have lw := ga_add hk16 hvk (by rw [hcnt]; omega)
              have hgl : Hid ((gst hv).l.length = c + 1) := Lib.hid (by rw [gst_len, hcnt])
              have hgn : Hid (gcn (fun j => hv j || j == k) = c + 1) := Lib.hid (by rw [gcn_new hk16 hvk, hcnt])
              have FS : Hid (∀ xs A, Rd w4 A xs → (∀ a, A = some a → a.block ≠ g) → Rd (w4.setCell ⟨g, k, none⟩ (.bool true)) A xs) := Lib.hid (fun xs A h hA => h.fr ((Fr.refl (fun j => j = g) w4).setCell (p := ⟨g, k, none⟩) (fun _ => rfl) _) (fun _ a ha => hA a ha))
              have R3' := Lib.hid (FS.out _ _ R3.out (fun a ha => hA3.out a ha))
              have R4' := Lib.hid (FS.out _ _ R4.out (fun a ha => hA4.out a ha))
              replace q1 := Lib.hid q1
              replace q2 := Lib.hid q2
              replace q3 := Lib.hid q3
              replace lw := Lib.hid lw
              have hc7b : Hid (c + 1 ≤ 8) := Lib.hid hc7
              have hcb : c ≤ 8 := by omega
              replace hvk := Lib.hid hvk
              clear hcnt hc7 HM FS R3 R4
              go_wp2_with fail
              refine (cadd_at 0 (gst (fun j => hv j || j == k)) q1.out (k + 1) (gai k) (gat k) A3 A4 8 16 c3 c4 (by simp [gai]) (by simp [gat]) R3'.out R4'.out (by have := hgl.out; omega) lw.out.2 lw.out.1).mono ?_
              rintro e w6 ⟨rfl, H6, F6⟩
              have HM : Hid (GS w p g (c + 1) w6 (fun j => hv j || j == k)) := Lib.hid ⟨H6, q2.out.fr F6 (fun hk => hk (.inr rfl)), fp_below q3.out q3.out.size (fun _ hk => .inl hk) F6, hgn.out, hc7b.out⟩
              clear H6 F6 q1 q2 q3 R3' R4'
              go_wp2_with fail
              refine HM.out.free.mono ?_
              rintro e w7 ⟨rfl, HM⟩
              replace HM := Lib.hid HM
              go_wp2_with fail
              go_roundw
              case rel => exact ⟨j + 1, c + 1, by omega, by go_num, by go_num, hc7b.out, Lib.hid ⟨_, HM.out⟩⟩
              case measure => simp [intOf] <;> omega
            · have dc : decide ((c : Int) < 8) = false := decide_eq_false (by omega)
              have dcn : decide (c < 8) = false := decide_eq_false hc7
              have lw := ga_full hk16 hvk (by rw [hcnt]; omega)
              replace lw := Lib.hid lw
              replace hvk := Lib.hid hvk
              clear hcnt hc7
              go_wp2_with fail
              refine (HM.out.add 9 (k + 1) (gai k) (gat k) A3 A4 8 16 c3 c4 (by simp [gai]) (by simp [gat]) R3.out R4.out lw.out).mono ?_
              rintro e w6 ⟨rfl, HM⟩
              replace HM := Lib.hid HM
              go_wp2_with fail
              refine HM.out.free.mono ?_
              rintro e w7 ⟨rfl, HM⟩
              replace HM := Lib.hid HM
              go_wp2_with fail
              go_roundw
              case rel => exact ⟨j + 1, c, by omega, by first | rfl | go_num, by go_num, hc8, Lib.hid ⟨_, HM.out⟩⟩
              case measure => simp [intOf] <;> omega
          · have e0 : ((d : Int) == 0) = false := beq_eq_false_iff_ne.2 (by omega)
            have e1 : ((d : Int) == 1) = true := beq_iff_eq.2 (by omega)
            have e2 : ((d : Int) == 2) = false := beq_eq_false_iff_ne.2 (by omega)
            have e3 : ((d : Int) == 3) = false := beq_eq_false_iff_ne.2 (by omega)
            have K7 := cut_h (P := Try.prog) Try.underlying22 infoB A3 8 c3 7 (by have := hcp3.out; omega)
            replace K7 : ∀ w : World, (Instr.sliceAt 22 (.slice A3 8 c3) none (some (.int .i64 7)) none).run Try.prog w = .ok (.slice A3 7 c3) w := K7
            have R7 : Hid (Rd w4 A3 (bv ((gai k).take 7))) := Lib.hid (by rw [bv_take]; exact R3.out.take 7)
            replace hvk := Lib.hid hvk
            clear hcnt
            go_wp2_with fail
            refine (HM.out.add 5 (k + 1) ((gai k).take 7) (gat k) A3 A4 7 16 c3 c4 (by simp [gai]) (by simp [gat]) R7.out R4.out (ga_form _ _ _ (by simp [gai]))).mono ?_
            rintro e w6 ⟨rfl, HM⟩
            replace HM := Lib.hid HM
            go_wp2_with fail
            refine HM.out.free.mono ?_
            rintro e w7 ⟨rfl, HM⟩
            replace HM := Lib.hid HM
            go_wp2_with fail
            go_roundw
            case rel => exact ⟨j + 1, c, by omega, by first | rfl | go_num, by go_num, hc8, Lib.hid ⟨_, HM.out⟩⟩
            case measure => simp [intOf] <;> omega
          · have e0 : ((d : Int) == 0) = false := beq_eq_false_iff_ne.2 (by omega)
            have e1 : ((d : Int) == 1) = false := beq_eq_false_iff_ne.2 (by omega)
            have e2 : ((d : Int) == 2) = true := beq_iff_eq.2 (by omega)
            have e3 : ((d : Int) == 3) = false := beq_eq_false_iff_ne.2 (by omega)
            have K7 := cut_h (P := Try.prog) Try.underlying22 infoB A3 8 c3 7 (by have := hcp3.out; omega)
            replace K7 : ∀ w : World, (Instr.sliceAt 22 (.slice A3 8 c3) none (some (.int .i64 7)) none).run Try.prog w = .ok (.slice A3 7 c3) w := K7
            have R7 : Hid (Rd w4 A3 (bv ((gai k).take 7))) := Lib.hid (by rw [bv_take]; exact R3.out.take 7)
            replace hvk := Lib.hid hvk
            clear hcnt
            go_wp2_with fail
            refine (HM.out.add 5 (k + 1) ((gai k).take 7) (gat k) A3 A4 7 16 c3 c4 (by simp [gai]) (by simp [gat]) R7.out R4.out (ga_form _ _ _ (by simp [gai]))).mono ?_
            rintro e w6 ⟨rfl, HM⟩
            replace HM := Lib.hid HM
            go_wp2_with fail
            refine HM.out.free.mono ?_
            rintro e w7 ⟨rfl, HM⟩
            replace HM := Lib.hid HM
            go_wp2_with fail
            go_roundw
            case rel => exact ⟨j + 1, c, by omega, by first | rfl | go_num, by go_num, hc8, Lib.hid ⟨_, HM.out⟩⟩
            case measure => simp [intOf] <;> omega
          · have e0 : ((d : Int) == 0) = false := beq_eq_false_iff_ne.2 (by omega)
            have e1 : ((d : Int) == 1) = false := beq_eq_false_iff_ne.2 (by omega)
            have e2 : ((d : Int) == 2) = false := beq_eq_false_iff_ne.2 (by omega)
            have e3 : ((d : Int) == 3) = true := beq_iff_eq.2 (by omega)
            have K7 := cut_h (P := Try.prog) Try.underlying22 infoB A3 8 c3 7 (by have := hcp3.out; omega)
            replace K7 : ∀ w : World, (Instr.sliceAt 22 (.slice A3 8 c3) none (some (.int .i64 7)) none).run Try.prog w = .ok (.slice A3 7 c3) w := K7
            have R7 : Hid (Rd w4 A3 (bv ((gai k).take 7))) := Lib.hid (by rw [bv_take]; exact R3.out.take 7)
            replace hvk := Lib.hid hvk
            clear hcnt
            go_wp2_with fail
            refine (HM.out.add 5 (k + 1) ((gai k).take 7) (gat k) A3 A4 7 16 c3 c4 (by simp [gai]) (by simp [gat]) R7.out R4.out (ga_form _ _ _ (by simp [gai]))).mono ?_
            rintro e w6 ⟨rfl, HM⟩
            replace HM := Lib.hid HM
            go_wp2_with fail
            refine HM.out.free.mono ?_
            rintro e w7 ⟨rfl, HM⟩
            replace HM := Lib.hid HM
            go_wp2_with fail
            go_roundw
            case rel => exact ⟨j + 1, c, by omega, by first | rfl | go_num, by go_num, hc8, Lib.hid ⟨_, HM.out⟩⟩
            case measure => simp [intOf] <;> omega
      · have hb : Hid (Below w.heap.size w wr) := Lib.hid (by obtain ⟨hv, HM⟩ := HP.out; exact HM.bel)
        clear HP
        go_wp2_with fail
        refine (awake_any wr).mono ?_
        rintro e w7 ⟨rfl, b7⟩
        replace b7 := Lib.hid b7
        go_wp2_with fail
        go_ret
        exact ⟨rfl, hb.out.trans (b7.out.mono hb.out.size)⟩
theorem again_any (l : List Int) (A : Option Addr) (cn0 : Nat) (w : World) (hr : Rd w A (l.map (Value.int .i64))) (hl : l.length ≤ 9223372036854775807) : Calls Try.prog 7 #[.slice A l.length cn0] w fun e w' => e = .returned (.bool true) ∧ Below w.heap.size w w' := again_in l l.length cn0 A w rfl hr hl
end Go.Proofs.Ytgmanhbfdjlhbaa
