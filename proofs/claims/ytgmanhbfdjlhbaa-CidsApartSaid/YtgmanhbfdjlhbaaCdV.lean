/- CidsApart: the walk; it is true at every input. (Printed by gen_cdV.py.) -/
import Derived.Test.YtgmanhbfdjlhbaaCdT
import Derived.Test.YtgmanhbfdjlhbaaArrV
namespace Go.Proofs.Ytgmanhbfdjlhbaa
open Go.RowKit

theorem ba_list_ne {u v : ByteArray} (h : u ≠ v) : (u.toList == v.toList) = false := by
  rw [beq_eq_false_iff_ne, ByteArray.toList_eq, ByteArray.toList_eq]
  intro e
  apply h
  cases u; cases v
  simp only at e
  rw [Array.toList_inj.1 e]
/-- What a path's name is as a string. -/
def hs : Nat → ByteArray
  | 0 => ⟨#[]⟩
  | j + 1 => ⟨(gid j).toArray⟩
theorem hs_nil (j : Nat) : hs (j + 1) ≠ ⟨#[]⟩ := by
  intro e
  have h1 : (gid j).toArray = #[] := congrArg ByteArray.data e
  have h2 := gid_len j
  have h3 : gid j = [] := by simpa using congrArg Array.toList h1
  rw [h3] at h2; simp at h2
theorem hs_ne {i j : Nat} (hi : i ≤ j) (hj : j < 16) : hs i ≠ hs (j + 1) := by
  rcases i with _ | i
  · exact fun e => hs_nil j e.symm
  · intro e
    have h1 : (gid i).toArray = (gid j).toArray := congrArg ByteArray.data e
    have h2 : gid i = gid j := by simpa using congrArg Array.toList h1
    exact gid_ne i (by omega) j hj (by omega) h2
/-- The pool and what each path has, as strings. -/
structure PA (w : World) (p g m next : Nat) (W : World) (hv : Nat → Nat) (pth : Nat → Int) (use : Int) : Prop where
  pi : PI m next hv pth
  at_ : At OC (fun k => k < w.heap.size ∨ k = g) W p (pst gid gtok m next pth (fun _ => false) use)
  arr : AtArrV 9 0 W g 12 (fun x => .string (hs (hv x)))
  bel : Below w.heap.size w W
def PT (w : World) (p g m next : Nat) (W : World) : Prop := ∃ hv pth use, PA w p g m next W hv pth use
def pg (k : Nat) : Cd := pst gid gtok k 1 (fun _ => 0) (fun _ => false) 0
theorem pg_start : cnew (gid 0) = pg 0 := by rfl
theorem pg_step {k : Nat} (hk : k < 8) : cadd (pg k) (k + 1) (gid (k + 1)) (gtok (k + 1)) = pg (k + 1) ∧ caddE (pg k).l (k + 1) (gid (k + 1)) (gtok (k + 1)) = 0 :=
  pst_add hk (gid_len _) (gtok_len (by omega)) (fun j hj => gid_ne _ (by omega) _ (by omega) (by omega)) (by simp) rfl
section
variable {w W W' : World} {p g m next : Nat} {hv : Nat → Nat} {pth : Nat → Int} {use : Int}
theorem PA.below (h : PA w p g m next W hv pth use) (b : Below W.heap.size W W') : PA w p g m next W' hv pth use :=
  ⟨h.pi, h.at_.below okC b, h.arr.below b, h.bel.trans (b.mono h.bel.size)⟩
theorem PA.fr (h : PA w p g m next W hv pth use) (F : Fr (NotP fun k => k < w.heap.size ∨ k = g) W W') : AtArrV 9 0 W' g 12 (fun x => .string (hs (hv x))) ∧ Below w.heap.size w W' :=
  ⟨h.arr.fr F (fun hk => hk (.inr rfl)), fp_below h.bel h.bel.size (fun _ hk => .inl hk) F⟩
/-- A path asks that has one. -/
theorem PA.forA (h : PA w p g m next W hv pth use) {k J : Nat} (hk : k < 12) (hp : hv k = J + 1) : Calls Try.prog 16 #[.pointer (some ⟨p, 0, none⟩), .int .i64 (k : Int)] W fun e w' =>
    ∃ b c, e = .returned (.tuple #[.slice (some ⟨b, 0, none⟩) 8 c, .bool true]) ∧ Rd w' (some ⟨b, 0, none⟩) (bv (gid J)) ∧ PA w p g m next w' hv pth (k : Int) := by
  refine (cfory_at _ (gid J) h.at_ (k : Int) (by have := h.pi.old hk (by omega) gid gtok (fun _ => false) use; rw [hp] at this; exact this)).mono ?_
  rintro e w' ⟨A2, c2, rfl, o2, h8, H2, F2⟩
  rcases own_cases o2 with ⟨_, e2, _⟩ | ⟨b, rfl, _⟩
  · cases e2
  · obtain ⟨a1, a2⟩ := h.fr F2
    exact ⟨b, c2, rfl, Rd.of_own o2, h.pi, H2.narrow (fun _ h => .inl h), a1, a2⟩
/-- A path asks that gets one. -/
theorem PA.forB (h : PA w p g m next W hv pth use) {k : Nat} (hk : k < 12) (hp : hv k = 0) (hn : next ≤ m) (hg : ¬ g < w.heap.size) : Calls Try.prog 16 #[.pointer (some ⟨p, 0, none⟩), .int .i64 (k : Int)] W fun e w' =>
    ∃ b c, e = .returned (.tuple #[.slice (some ⟨b, 0, none⟩) 8 c, .bool true]) ∧ Rd w' (some ⟨b, 0, none⟩) (bv (gid next)) ∧ AtArrV 9 0 w' g 12 (fun x => .string (hs (hv x))) ∧ Hid (∀ W2, Still w' W2 → PA w p g m (next + 1) (W2.setCell ⟨g, k, none⟩ (.string (hs (next + 1)))) (fun j => if j = k then next + 1 else hv j) (fun i => if i = next then (k : Int) else pth i) (k : Int)) := by
  obtain ⟨pi2, hf⟩ := h.pi.new hk hp hn
  refine (cfory_at _ (gid next) h.at_ (k : Int) (hf gid gtok (fun _ => false) use)).mono ?_
  rintro e w' ⟨A2, c2, rfl, o2, h8, H2, F2⟩
  rcases own_cases o2 with ⟨_, e2, _⟩ | ⟨b, rfl, _⟩
  · cases e2
  · obtain ⟨a1, a2⟩ := h.fr F2
    refine ⟨b, c2, rfl, Rd.of_own o2, a1, Lib.hid fun W2 st => ?_⟩
    have F3 : Fr (fun j => j = g) w' (W2.setCell ⟨g, k, none⟩ (.string (hs (next + 1)))) := (st.fr _).trans ((Fr.refl (fun j => j = g) W2).setCell (p := ⟨g, k, none⟩) (fun _ => rfl) _)
    refine ⟨pi2, (H2.narrow (fun _ h => .inl h)).fr okC F3 (fun j _ hj => .inr hj), ?_, Fr.under a2 a2.size F3 (fun j hj _ => by omega)⟩
    have := (a1.fr (st.fr NoS) (fun x => x)).put k (.string (hs (next + 1)))
    refine this.eq (fun x hx => ?_)
    by_cases e : x = k
    · simp [e]
    · simp [e]
theorem PA.forC (h : PA w p g m next W hv pth use) {k : Nat} (hp : hv k = 0) (hn : ¬ next ≤ m) : Calls Try.prog 16 #[.pointer (some ⟨p, 0, none⟩), .int .i64 (k : Int)] W fun e w' =>
    e = .returned (.tuple #[.slice none 0 0, .bool false]) ∧ PA w p g m next w' hv pth use := by
  refine (cforn_at _ h.at_ (k : Int) (h.pi.no hp hn gid gtok (fun _ => false) use)).mono ?_
  rintro e w' ⟨rfl, _, b⟩
  exact ⟨rfl, h.below b⟩
theorem PA.free (h : PA w p g m next W hv pth use) (v : Nat) (hv : m + 1 - next = v) : Calls Try.prog 12 #[.pointer (some ⟨p, 0, none⟩)] W fun e w' => e = .returned (.int .i64 v) ∧ PT w p g m next w' := by
  refine (cfree_at v h.at_ (by rw [h.pi.free]; exact hv)).mono ?_
  rintro e w' ⟨rfl, b⟩
  exact ⟨rfl, _, _, _, h.below b⟩
theorem PT.start {W0 : World} (H : At OC (fun k => k < w.heap.size) W0 p (pg m)) (hb : Below w.heap.size w W0) (o : Obj) (ho : o = .cells (tv 12 (fun x => .string (hs (if x = 0 then 1 else 0)))).toArray 9) : PT w p W0.heap.size m 1 (W0.alloc o) := by
  subst ho
  refine ⟨fun k => if k = 0 then 1 else 0, fun _ => 0, 0, ⟨PI.start m, ?_, ?_, hb.alloc hb.size _⟩⟩
  · exact H.widen okC (fun k hk => by rcases hk with hk | hk
                                      · exact .inl hk
                                      · exact .inr (by omega)) ((Below.refl _ W0).alloc (Nat.le_refl _) _) (fun k hk => by
      have := hb.size
      rcases hk with hk | hk
      · simp; omega
      · simp; omega)
  · exact AtArrV.new _ W0 12 _ (by omega) _ rfl
end
set_option maxRecDepth 100000 in
set_option maxHeartbeats 8000000 in
theorem apart_in (l : List Int) (n cn : Nat) (A : Option Addr) (m0 : Int) (m : Nat) (w : World) (hn : l.length = n) (hr : Rd w A (l.map (Value.int .i64))) (hn2 : n ≤ 9223372036854775807) (hm : m < 9)
    (D1 : Hid (∀ w : World, Calls Try.prog 25 #[.int .i64 m0, .int .i64 9] w fun e w' => e = .returned (.int .i64 m) ∧ w = w')) :
    Calls Try.prog 4 #[.int .i64 m0, .slice A n cn] w fun e w' => e = .returned (.bool true) ∧ Below w.heap.size w w' := by
  have CG8 := Lib.hid (fun (j : Nat) (hj : j ≤ 20) w => grow_any 8 j w (by omega) (by omega))
  have CG16 := Lib.hid (fun (j : Nat) (hj : j ≤ 20) w => grow_any 16 j w (by omega) (by omega))
  have hE : hs 0 = ⟨#[]⟩ := rfl
  replace hE := Lib.hid hE
  replace hr := Lib.hid hr
  replace hn := Lib.hid hn
  go_enter Try.func4, Try.ntmps4
  by_cases hn20 : 30 < n
  · have d0 : decide (30 < (n : Int)) = true := decide_eq_true (by omega)
    have d0n : decide (30 < n) = true := decide_eq_true hn20
    go_wp2_with fail
    refine (awake_any w).mono ?_
    rintro e w5 ⟨rfl, b5⟩
    replace b5 := Lib.hid b5
    go_wp2_with fail
    go_ret
    exact ⟨rfl, b5.out⟩
  · have d0 : decide (30 < (n : Int)) = false := decide_eq_false (by omega)
    have d0n : decide (30 < n) = false := decide_eq_false hn20
    have hn3 : n ≤ 30 := by omega
    clear hn20 hn2
    go_wp2_with fail
    refine (D1.out _).mono ?_
    rintro e w' ⟨rfl, rfl⟩
    clear D1 d0 d0n
    go_wp2_with fail
    refine (CG8.out 0 (by omega) _).mono ?_
    rintro e w1 ⟨AF, cF, rfl, oF, b1⟩
    have RF := Lib.hid (Rd.of_own oF)
    replace b1 := Lib.hid b1
    clear oF
    go_wp2_with fail
    refine (cnew_at (P := fun k => k < w.heap.size) (w := w1) (fun k hk => Nat.lt_of_lt_of_le hk b1.out.size) (gid 0) AF cF (gid_len _) RF.out).mono ?_
    rintro e w2 ⟨p, rfl, H, b2, _⟩
    have HS : Hid (At OC (fun k => k < w.heap.size) w2 p (pg 0) ∧ Below w.heap.size w w2) := Lib.hid ⟨by rw [← pg_start]; exact H, b1.out.trans (b2.mono b1.out.size)⟩
    clear H b2 b1 RF
    go_wp2_with fail
    go_loopw [6] (fun i wr => ∃ k : Nat, k ≤ m ∧ i = .int .i64 ((k : Int) + 1) ∧ Hid (At OC (fun k => k < w.heap.size) wr p (pg k) ∧ Below w.heap.size w wr)) (fun i _ => m + 2 - (intOf i).toNat)
    case atStart => exact ⟨0, by omega, rfl, HS⟩
    case round =>
      clear HS
      obtain ⟨k, hk, rfl, HS⟩ := hrel
      by_cases hkm : k + 1 ≤ m
      · rename_i aa; clear aa
        have d1 : decide ((k : Int) + 1 ≤ (m : Int)) = true := decide_eq_true (by omega)
        have d1n : decide (k + 1 ≤ m) = true := decide_eq_true hkm
        have d1k : decide (k < m) = true := decide_eq_true hkm
        have ST := Lib.hid (pg_step (k := k) (by omega))
        have hpl : Hid ((pg k).l.length = k + 1) := Lib.hid (by simp [pg, pst])
        have hkb : k + 1 ≤ 9 := by omega
        have hkm2 := Lib.hid hkm
        clear hkm
        go_wp2_with fail
        refine (CG8.out (k + 1) (by omega) _).mono ?_
        rintro e w3 ⟨A3, c3, rfl, o3, b3⟩
        have R3 := Lib.hid (Rd.of_own o3)
        replace HS := Lib.hid (And.intro (HS.out.1.below okC b3) (HS.out.2.trans (b3.mono HS.out.2.size)))
        clear o3 b3
        go_wp2_with fail
        refine (CG16.out (k + 1) (by omega) _).mono ?_
        rintro e w4 ⟨A4, c4, rfl, o4, b4⟩
        have R4 := Lib.hid (Rd.of_own o4)
        replace R3 := Lib.hid (R3.out.below b4)
        replace HS := Lib.hid (And.intro (HS.out.1.below okC b4) (HS.out.2.trans (b4.mono HS.out.2.size)))
        clear o4 b4
        go_wp2_with fail
        refine (cadd_at 0 (pg (k + 1)) HS.out.1 (k + 1) (gid (k + 1)) (gtok (k + 1)) A3 A4 8 16 c3 c4 (gid_len _) (gtok_len (by omega)) R3.out (by rw [gtok_eq (by omega)]; exact R4.out) (by have := hpl.out; omega) ST.out.2 ST.out.1).mono ?_
        rintro e w5 ⟨rfl, H5, F5⟩
        replace HS := Lib.hid (And.intro H5 (fp_below HS.out.2 HS.out.2.size (fun _ h => h) F5))
        clear H5 F5 R3 R4
        go_wp2_with fail
        go_roundw
        case rel => exact ⟨k + 1, by have := hkm2.out; omega, by go_num, HS⟩
        case measure => have := hkm2.out; simp [intOf] <;> omega
      · obtain rfl : k = m := by omega
        have d1 : decide ((k : Int) + 1 ≤ (k : Int)) = false := decide_eq_false (by omega)
        have d1n : decide (k + 1 ≤ k) = false := decide_eq_false hkm
        have d1k : decide (k < k) = false := decide_eq_false (by omega)
        clear hkm
        go_wp2_with fail
        refine (CG8.out 0 (by omega) _).mono ?_
        rintro e w3 ⟨A3, c3, rfl, o3, b3⟩
        replace HS := Lib.hid (And.intro (HS.out.1.below okC b3) (HS.out.2.trans (b3.mono HS.out.2.size)))
        obtain ⟨S1, hS1⟩ : ∃ S1, hs 1 = S1 := ⟨_, rfl⟩
        have hcv : (convert 22 9 (.slice A3 8 c3)).run Try.prog w3 = .ok (.string S1) w3 := by
          have := run_conv_bytes (P := Try.prog) (w := w3) (src := 22) (dst := 9) Try.underlying22 Try.underlying5 Try.underlying9 (c := c3) (l := gid 0) (Rd.of_own o3)
          rw [gid_len] at this
          rw [← hS1]; exact this
        clear o3 b3 d1 d1n d1k
        have PS0 : Hid (∀ o, o = .cells #[.string S1, .string ⟨#[]⟩, .string ⟨#[]⟩, .string ⟨#[]⟩, .string ⟨#[]⟩, .string ⟨#[]⟩, .string ⟨#[]⟩, .string ⟨#[]⟩, .string ⟨#[]⟩, .string ⟨#[]⟩, .string ⟨#[]⟩, .string ⟨#[]⟩] 9 → PT w p w3.heap.size k 1 (w3.alloc o)) := Lib.hid (fun o ho => by
          refine PT.start HS.out.1 HS.out.2 o ?_
          rw [ho, ← hS1]; rfl)
        have hgg : Hid (w.heap.size ≤ w3.heap.size) := Lib.hid HS.out.2.size
        replace hS1 := Lib.hid hS1
        clear HS
        go_wp2_with fail
        have PS1 := Lib.hid (PS0.out _ rfl)
        obtain ⟨g, hg⟩ : ∃ g, w3.heap.size = g := ⟨_, rfl⟩
        obtain ⟨W0, hW0⟩ : ∃ W0, w3.alloc (.cells #[.string S1, .string ⟨#[]⟩, .string ⟨#[]⟩, .string ⟨#[]⟩, .string ⟨#[]⟩, .string ⟨#[]⟩, .string ⟨#[]⟩, .string ⟨#[]⟩, .string ⟨#[]⟩, .string ⟨#[]⟩, .string ⟨#[]⟩, .string ⟨#[]⟩] 9) = W0 := ⟨_, rfl⟩
        rw [hW0, hg] at PS1
        rw [hg] at hgg
        rw [hW0, hg]
        clear PS0 hg hW0 hcv hS1
        go_loopw [8, 9, 10, 11, 12, 13] (fun lf i _ _ _ _ wq => ∃ (j next fr : Nat), j ≤ n ∧ lf = .int .i64 fr ∧ i = .int .i64 j ∧ next ≤ k + 1 ∧ 1 ≤ next ∧ fr + next = k + 1 ∧ Hid (PT w p g k next wq)) (fun _ i _ _ _ _ _ => n - (intOf i).toNat)
        case atStart => exact ⟨0, 1, k, by omega, rfl, rfl, by omega, by omega, by omega, PS1⟩
        case round =>
          clear PS1
          obtain ⟨j, next, fr, hj, rfl, rfl, hnx, hnx1, hfr, HP⟩ := hrel
          by_cases hjn : j < n
          · rename_i aa; clear aa
            have hjl : j < l.length := by rw [hn.out]; exact hjn
            obtain ⟨hv, pth, use, HM⟩ := HP.out
            obtain ⟨bA, oA, rfl, z0⟩ := ((hr.out.fr (Fr.of_below HM.bel NoS) (fun _ _ _ x => x)).at_ (k := j) (by simpa using hjl))
            rw [List.getElem_map] at z0
            obtain ⟨x, hx⟩ : ∃ x, l[j] = x := ⟨_, rfl⟩
            rw [hx] at z0
            clear hx hjl HP
            obtain ⟨kk, hkk, D⟩ := low_ex x 12 (by omega) (by omega)
            have hj0 : (0 : Int) ≤ (j : Int) := by omega
            have hji : (j : Int) < (n : Int) := by omega
            have hkki : (kk : Int) < 12 := by omega
            have hkk0 : (0 : Int) ≤ (kk : Int) := by omega
            replace D := Lib.hid D
            rcases Nat.eq_zero_or_pos (hv kk) with hz | hz
            · by_cases hnm : next ≤ k
              · -- it gets one
                have CB := Lib.hid (HM.forB hkk hz hnm (by have := hgg.out; omega))
                have hvb : Hid (∀ i, i < 12 → hv i ≤ next) := Lib.hid (fun i hi => by
                  rcases Nat.eq_zero_or_pos (hv i) with h | h
                  · omega
                  · exact (HM.pi.of_ i hi h).1)
                obtain ⟨f1, rfl⟩ : ∃ f1, fr = f1 + 1 := ⟨fr - 1, by omega⟩
                replace hz := Lib.hid hz
                clear HM
                go_wp2_with fail
                refine (D.out _).mono ?_
                rintro e w' ⟨rfl, rfl⟩
                clear D z0
                go_wp2_with fail
                refine CB.out.mono ?_
                rintro e wz ⟨b3, c3, rfl, R3, AR, HM⟩
                obtain ⟨SJ, hSJ⟩ : ∃ SJ, hs (next + 1) = SJ := ⟨_, rfl⟩
                have ga : wz.cell? ⟨g, kk, none⟩ = some (.string ⟨#[]⟩) := by
                  have := AR.cell hkk
                  simp only [hz.out, hE.out] at this
                  exact this
                have fa := AR.frozen kk
                have hcv : ∀ q, (convert 22 9 (.slice (some ⟨b3, 0, none⟩) 8 c3)).run Try.prog (wz.drewN q) = .ok (.string SJ) (wz.drewN q) := fun q => by
                  have := run_conv_bytes (P := Try.prog) (w := wz.drewN q) (src := 22) (dst := 9) Try.underlying22 Try.underlying5 Try.underlying9 (c := c3) (l := gid next) (R3.drewN q)
                  rw [gid_len] at this
                  rw [← hSJ]; exact this

                have hcv0 : (convert 22 9 (.slice (some ⟨b3, 0, none⟩) 8 c3)).run Try.prog wz = .ok (.string SJ) wz := hcv 0
                have hne : Hid (∀ i, i < 12 → ((hs (hv i)).toList == SJ.toList) = false) := Lib.hid (fun i hi => by rw [← hSJ]; exact ba_list_ne (hs_ne (hvb.out i hi) (by omega)))
                have dl : decide ((0 : Int) < (f1 : Int) + 1) = true := decide_eq_true (by omega)
                have dln : decide (0 < f1 + 1) = true := decide_eq_true (by omega)
                have HM2 : Hid (∀ W2, Still wz W2 → PA w p g k (next + 1) (W2.setCell ⟨g, kk, none⟩ (.string SJ)) (fun j => if j = kk then next + 1 else hv j) (fun i => if i = next then (kk : Int) else pth i) (kk : Int)) := Lib.hid (by rw [← hSJ]; exact HM.out)
                replace hSJ := Lib.hid hSJ
                replace AR := Lib.hid AR
                have hfb : f1 ≤ 20 := by omega
                clear CB R3 HM
                go_wp2_with fail
                go_quiet (fail)
                go_wp2_with fail
                go_loopw [13] (fun i wq => ∃ j q : Nat, j ≤ 12 ∧ i = .int .i64 j ∧ wq = wz.drewN q) (fun i _ => 12 - (intOf i).toNat)
                case atStart => exact ⟨0, nq, by omega, rfl, rfl⟩
                case round =>
                  obtain ⟨i, q, hi, rfl, rfl⟩ := hrel
                  by_cases hi12 : i < 12
                  · rename_i aa; clear aa
                    have gi : wz.cell? ⟨g, i, none⟩ = some (.string (hs (hv i))) := AR.out.cell hi12
                    have gne := hne.out i hi12
                    obtain ⟨SI, hSI⟩ : ∃ SI, hs (hv i) = SI := ⟨_, rfl⟩
                    rw [hSI] at gi gne
                    have hi0 : (0 : Int) ≤ (i : Int) := by omega
                    have hii : (i : Int) < 12 := by omega
                    replace hSI := Lib.hid hSI
                    have hcvq := fun q2 => hcv (q + q2)
                    go_wp2_with fail
                    go_quiet (fail)
                    go_wp2_with fail
                    go_roundw
                    case rel => exact ⟨i + 1, q + nq, by omega, by go_num, rfl⟩
                    case measure => simp [intOf] <;> omega
                  · obtain rfl : i = 12 := by omega
                    have CF := Lib.hid ((HM2.out (wz.drewN q) (Still.drewN wz q)).free f1 (by omega))
                    have hcvq := hcv q
                    clear HM2 hne AR hi12
                    go_wp2_with fail
                    refine CF.out.mono ?_
                    rintro e w6 ⟨rfl, HP⟩
                    replace HP := Lib.hid HP
                    clear CF
                    go_wp2_with fail
                    go_roundw
                    case rel => exact ⟨j + 1, next + 1, f1, by omega, by go_num, by go_num, by omega, by omega, by omega, HP⟩
                    case measure => simp [intOf] <;> omega
              · -- it gets none
                have CC := Lib.hid (HM.forC hz hnm)
                obtain rfl : fr = 0 := by omega
                replace hz := Lib.hid hz
                clear HM
                go_wp2_with fail
                refine (D.out _).mono ?_
                rintro e w' ⟨rfl, rfl⟩
                clear D z0
                go_wp2_with fail
                refine CC.out.mono ?_
                rintro e wz ⟨rfl, HM⟩
                have ga : wz.cell? ⟨g, kk, none⟩ = some (.string ⟨#[]⟩) := by
                  have := HM.arr.cell hkk
                  simp only [hz.out, hE.out] at this
                  exact this
                have CF := Lib.hid (fun q => (HM.below (Still.drewN wz q).below).free 0 (by omega))
                clear CC HM
                go_wp2_with fail
                go_quiet (fail)
                have CF := Lib.hid (CF.out nq)
                go_wp2_with fail
                refine CF.out.mono ?_
                rintro e w6 ⟨rfl, HP⟩
                replace HP := Lib.hid HP
                clear CF
                go_wp2_with fail
                go_roundw
                case rel => exact ⟨j + 1, next, 0, by omega, rfl, by go_num, by omega, by omega, by omega, HP⟩
                case measure => simp [intOf] <;> omega
            · -- it has one
              obtain ⟨J, hJ⟩ : ∃ J, hv kk = J + 1 := ⟨hv kk - 1, by omega⟩
              have CA := Lib.hid (HM.forA hkk hJ)
              replace hJ := Lib.hid hJ
              clear hz HM
              go_wp2_with fail
              refine (D.out _).mono ?_
              rintro e w' ⟨rfl, rfl⟩
              clear D z0
              go_wp2_with fail
              refine CA.out.mono ?_
              rintro e wz ⟨b3, c3, rfl, R3, HM⟩
              obtain ⟨SJ, hSJ⟩ : ∃ SJ, hs (J + 1) = SJ := ⟨_, rfl⟩
              have ga : wz.cell? ⟨g, kk, none⟩ = some (.string SJ) := by
                have := HM.arr.cell hkk
                simp only [hJ.out, hSJ] at this
                exact this
              have hcv : ∀ q, (convert 22 9 (.slice (some ⟨b3, 0, none⟩) 8 c3)).run Try.prog (wz.drewN q) = .ok (.string SJ) (wz.drewN q) := fun q => by
                have := run_conv_bytes (P := Try.prog) (w := wz.drewN q) (src := 22) (dst := 9) Try.underlying22 Try.underlying5 Try.underlying9 (c := c3) (l := gid J) (R3.drewN q)
                rw [gid_len] at this
                rw [← hSJ]; exact this

              have n1 : (SJ.toList == (⟨#[]⟩ : ByteArray).toList) = false := by rw [← hSJ]; exact ba_list_ne (hs_nil J)
              have n2 : (SJ.toList != (⟨#[]⟩ : ByteArray).toList) = true := by rw [bne, n1]; rfl
              have n3 : SJ.toList.isEmpty = false := by
                rcases h : SJ.toList with _ | ⟨a, r⟩
                · rw [h, ByteArray.toList_eq] at n1; simp at n1
                · rfl
              have CF := Lib.hid (fun q => (HM.below (Still.drewN wz q).below).free fr (by omega))
              replace hSJ := Lib.hid hSJ
              clear CA R3 HM
              go_wp2_with fail
              go_big_quiet (fail)
              have CF := Lib.hid (CF.out nq)
              go_wp2_with fail
              refine CF.out.mono ?_
              rintro e w6 ⟨rfl, HP⟩
              replace HP := Lib.hid HP
              clear CF
              go_wp2_with fail
              go_roundw
              case rel => exact ⟨j + 1, next, fr, by omega, rfl, by go_num, by omega, by omega, by omega, HP⟩
              case measure => simp [intOf] <;> omega
          · have hb : Hid (Below w.heap.size w wr) := Lib.hid (by obtain ⟨_, _, _, HM⟩ := HP.out; exact HM.bel)
            clear HP
            go_wp2_with fail
            refine (awake_any wr).mono ?_
            rintro e w7 ⟨rfl, b7⟩
            replace b7 := Lib.hid b7
            go_wp2_with fail
            go_ret
            exact ⟨rfl, hb.out.trans (b7.out.mono hb.out.size)⟩
theorem apart_any (l : List Int) (m0 : Int) (A : Option Addr) (cn : Nat) (w : World) (hr : Rd w A (l.map (Value.int .i64))) (hl : l.length ≤ 9223372036854775807) : Calls Try.prog 4 #[.int .i64 m0, .slice A l.length cn] w fun e w' => e = .returned (.bool true) ∧ Below w.heap.size w w' := by
  obtain ⟨m, hm, D1⟩ := low_ex m0 9 (by omega) (by omega)
  exact apart_in l l.length cn A m0 m w rfl hr hl hm (Lib.hid D1)
end Go.Proofs.Ytgmanhbfdjlhbaa
