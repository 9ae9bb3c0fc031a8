/- CidsPaths: the walk; it is true at every input. (Printed by gen_cdU.py.) -/
import Derived.Test.YtgmanhbfdjlhbaaCdT
import Derived.Test.YtgmanhbfdjlhbaaArrV
namespace Go.Proofs.Ytgmanhbfdjlhbaa
open Go.RowKit

def pid (j : Nat) : List UInt8 := [UInt8.ofNat j, 0, 0, 0, 0, 0, 0, 0]
theorem pid_len (j : Nat) : (pid j).length = 8 := rfl
theorem pid_bv {j : Nat} (h : j ≤ 20) : bv (pid j) = [.int .u8 (j : Int), .int .u8 0, .int .u8 0, .int .u8 0, .int .u8 0, .int .u8 0, .int .u8 0, .int .u8 0] := by
  unfold pid bv
  have : (UInt8.ofNat j).toNat = j := by rw [UInt8.toNat_ofNat']; omega
  simp [this]
theorem pid_ne {i j : Nat} (hi : i ≤ 20) (hj : j ≤ 20) (h : i ≠ j) : pid i ≠ pid j := by
  intro e
  have := congrArg bv e
  rw [pid_bv hi, pid_bv hj] at this
  simp at this
  omega
def pa (k : Nat) : Cd := pst pid gtok k 1 (fun _ => 0) (fun _ => false) 0
theorem pa_start : cnew (pid 0) = pa 0 := by rfl
theorem pa_step {k : Nat} (hk : k < 8) : cadd (pa k) (k + 1) (pid (k + 1)) (gtok (k + 1)) = pa (k + 1) ∧ caddE (pa k).l (k + 1) (pid (k + 1)) (gtok (k + 1)) = 0 :=
  pst_add hk rfl (gtok_len (by omega)) (fun j hj => pid_ne (by omega) (by omega) (by omega)) (by simp) rfl
theorem pst_len (ids toks : Nat → List UInt8) (m next : Nat) (pth : Nat → Int) (td : Nat → Bool) (use : Int) : (pst ids toks m next pth td use).l.length = m + 1 := by simp [pst]

/-- The pool and the array of what each path has, in the midst of a round. -/
structure PM (ids : Nat → List UInt8) (w : World) (p g m next tot : Nat) (W : World) (hv : Nat → Nat) (pth : Nat → Int) (td : Nat → Bool) (use : Int) : Prop where
  pi : PI m next hv pth
  at_ : At OC (fun k => k < w.heap.size ∨ k = g) W p (pst ids gtok m next pth td use)
  arr : AtArrV 51 0 W g 12 (fun x => .int .i64 (hv x : Int))
  bel : Below w.heap.size w W
  cnt : tcount m td = tot
  lo : ∀ j, td j = true → j < next
/-- .. and between two rounds. -/
def PS (ids : Nat → List UInt8) (w : World) (p g m next tot : Nat) (W : World) : Prop := ∃ hv pth td use, PM ids w p g m next tot W hv pth td use ∧ ∀ j, Nm.old use (pnm ids gtok next pth td j) = false
section
variable {ids : Nat → List UInt8} {w W W' : World} {p g m next tot : Nat} {hv : Nat → Nat} {pth : Nat → Int} {td : Nat → Bool} {use : Int}
theorem PM.le (h : PM ids w p g m next tot W hv pth td use) : tot ≤ next ∧ next ≤ m + 1 := ⟨by rw [← h.cnt]; exact tcount_le h.lo h.pi.hi, h.pi.hi⟩
theorem PM.below (h : PM ids w p g m next tot W hv pth td use) (b : Below W.heap.size W W') : PM ids w p g m next tot W' hv pth td use :=
  ⟨h.pi, h.at_.below okC b, h.arr.below b, h.bel.trans (b.mono h.bel.size), h.cnt, h.lo⟩
theorem PM.fr (h : PM ids w p g m next tot W hv pth td use) (F : Fr (NotP fun k => k < w.heap.size ∨ k = g) W W') {s : Cd} (H : At OC (fun k => k < w.heap.size ∨ k = g) W' p s) : AtArrV 51 0 W' g 12 (fun x => .int .i64 (hv x : Int)) ∧ Below w.heap.size w W' :=
  ⟨h.arr.fr F (fun hk => hk (.inr rfl)), fp_below h.bel h.bel.size (fun _ hk => .inl hk) F⟩
/-- A path asks that has one. -/
theorem PM.forA (h : PM ids w p g m next tot W hv pth td use) {k J : Nat} (hk : k < 12) (hp : hv k = J + 1) : Calls Try.prog 16 #[.pointer (some ⟨p, 0, none⟩), .int .i64 (k : Int)] W fun e w' =>
    ∃ b c, e = .returned (.tuple #[.slice (some ⟨b, 0, none⟩) 8 c, .bool true]) ∧ Rd w' (some ⟨b, 0, none⟩) (bv (ids J)) ∧ (ids J).length = 8 ∧ PM ids w p g m next tot w' hv pth td (k : Int) := by
  refine (cfory_at _ (ids J) h.at_ (k : Int) (by have := h.pi.old hk (by omega) ids gtok td use; rw [hp] at this; exact this)).mono ?_
  rintro e w' ⟨A2, c2, rfl, o2, h8, H2, F2⟩
  rcases own_cases o2 with ⟨_, e2, _⟩ | ⟨b, rfl, _⟩
  · cases e2
  · obtain ⟨a1, a2⟩ := h.fr F2 (H2.narrow (fun _ h => .inl h))
    exact ⟨b, c2, rfl, Rd.of_own o2, h8, h.pi, H2.narrow (fun _ h => .inl h), a1, a2, h.cnt, h.lo⟩
/-- A path asks that gets one. -/
theorem PM.forB (h : PM ids w p g m next tot W hv pth td use) {k : Nat} (hk : k < 12) (hp : hv k = 0) (hn : next ≤ m) (hg : ¬ g < w.heap.size) : Calls Try.prog 16 #[.pointer (some ⟨p, 0, none⟩), .int .i64 (k : Int)] W fun e w' =>
    ∃ b c, e = .returned (.tuple #[.slice (some ⟨b, 0, none⟩) 8 c, .bool true]) ∧ b ≠ g ∧ w'.cell? ⟨g, k, none⟩ = some (.int .i64 0) ∧ w'.frozen? ⟨g, k, none⟩ = false ∧ (ids next).length = 8 ∧ Hid (∀ W2, W2 = w'.setCell ⟨g, k, none⟩ (.int .i64 ((next : Int) + 1)) →
      Rd W2 (some ⟨b, 0, none⟩) (bv (ids next)) ∧ PM ids w p g m (next + 1) tot W2 (fun j => if j = k then next + 1 else hv j) (fun i => if i = next then (k : Int) else pth i) td (k : Int)) := by
  obtain ⟨pi2, hf⟩ := h.pi.new hk hp hn
  refine (cfory_at _ (ids next) h.at_ (k : Int) (hf ids gtok td use)).mono ?_
  rintro e w' ⟨A2, c2, rfl, o2, h8, H2, F2⟩
  rcases own_cases o2 with ⟨_, e2, _⟩ | ⟨b, rfl, _⟩
  · cases e2
  · obtain ⟨a1, a2⟩ := h.fr F2 (H2.narrow (fun _ h => .inl h))
    have hbg : b ≠ g := by
      have h1 := (o2.lt b rfl).1
      have h2 := h.arr.lt (by omega)
      omega
    have hc := a1.cell hk
    simp only [hp] at hc
    refine ⟨b, c2, rfl, hbg, hc, a1.frozen k, h8, Lib.hid fun W2 e2 => ?_⟩
    subst e2
    have F3 : Fr (fun j => j = g) w' (w'.setCell ⟨g, k, none⟩ (.int .i64 ((next : Int) + 1))) := (Fr.refl (fun j => j = g) w').setCell (p := ⟨g, k, none⟩) (fun _ => rfl) _
    refine ⟨(Rd.of_own o2).fr F3 (fun _ a ha hk => by injection ha with ha; subst ha; exact hbg hk), pi2, (H2.narrow (fun _ h => .inl h)).fr okC F3 (fun j _ hj => .inr hj), ?_, Fr.under a2 a2.size F3 (fun j hj _ => by omega), h.cnt, fun j hj => by have := h.lo j hj; omega⟩
    have := a1.put k (.int .i64 ((next : Int) + 1))
    refine this.eq (fun x hx => ?_)
    by_cases e : x = k
    · simp [e]
    · simp [e]
/-- A path asks that gets none. -/
theorem PM.forC (h : PM ids w p g m next tot W hv pth td use) {k : Nat} (hp : hv k = 0) (hn : ¬ next ≤ m) : Calls Try.prog 16 #[.pointer (some ⟨p, 0, none⟩), .int .i64 (k : Int)] W fun e w' =>
    e = .returned (.tuple #[.slice none 0 0, .bool false]) ∧ PM ids w p g m next tot w' hv pth td use := by
  refine (cforn_at _ h.at_ (k : Int) (h.pi.no hp hn ids gtok td use)).mono ?_
  rintro e w' ⟨rfl, _, b⟩
  exact ⟨rfl, h.below b⟩
theorem PM.free (h : PM ids w p g m next tot W hv pth td use) (v : Nat) (hv : m + 1 - next = v) : Calls Try.prog 12 #[.pointer (some ⟨p, 0, none⟩)] W fun e w' => e = .returned (.int .i64 v) ∧ Below W.heap.size W w' :=
  cfree_at v h.at_ (by rw [h.pi.free]; exact hv)
theorem PM.ret (h : PM ids w p g m next tot W hv pth td use) : ∃ n, tot + n ≤ next ∧ Calls Try.prog 20 #[.pointer (some ⟨p, 0, none⟩)] W fun e w' =>
    ∃ A c, e = .returned (.slice A n c) ∧ PS ids w p g m next (tot + n) w' := by
  have e := pst_ret (ids := ids) (toks := gtok) (m := m) (next := next) (pth := pth) (td := td) (use := use)
  have hb := ret_below (ids := ids) (toks := gtok) (pth := pth) (use := use) h.lo
  have hcnt := ret_count (ids := ids) (toks := gtok) (m := m) (next := next) (pth := pth) (td := td) (use := use)
  rw [h.cnt] at hcnt
  refine ⟨_, by rw [← hcnt]; exact tcount_le hb h.pi.hi, (cret_at _ _ _ h.at_ e rfl).mono ?_⟩
  rintro e w' ⟨A2, c2, rfl, o2, H2, F2⟩
  obtain ⟨a1, a2⟩ := h.fr F2 (H2.narrow (fun _ h => .inl h))
  exact ⟨A2, c2, rfl, hv, pth, _, use, ⟨h.pi, H2.narrow (fun _ h => .inl h), a1, a2, hcnt, hb⟩, ret_none⟩
/-- Told once more: nothing. -/
theorem PS.again (h : PS ids w p g m next tot W) : Calls Try.prog 20 #[.pointer (some ⟨p, 0, none⟩)] W fun e w' => ∃ A c, e = .returned (.slice A 0 c) ∧ Below w.heap.size w w' := by
  obtain ⟨hv, pth, td, use, h, ho⟩ := h
  refine (cret_at _ [] 0 h.at_ (ret_empty ho) rfl).mono ?_
  rintro e w' ⟨A2, c2, rfl, o2, H2, F2⟩
  exact ⟨A2, c2, rfl, (h.fr F2 (H2.narrow (fun _ h => .inl h))).2⟩
theorem PS.start {W0 : World} (H : At OC (fun k => k < w.heap.size) W0 p (pst ids gtok m 1 (fun _ => 0) (fun _ => false) 0)) (hb : Below w.heap.size w W0) (o : Obj) (ho : o = .cells #[.int .i64 1, .int .i64 0, .int .i64 0, .int .i64 0, .int .i64 0, .int .i64 0, .int .i64 0, .int .i64 0, .int .i64 0, .int .i64 0, .int .i64 0, .int .i64 0] 51) : PS ids w p W0.heap.size m 1 0 (W0.alloc o) := by
  subst ho
  refine ⟨fun k => if k = 0 then 1 else 0, fun _ => 0, fun _ => false, 0, ⟨PI.start m, ?_, ?_, hb.alloc hb.size _, ?_, fun j hj => by cases hj⟩, fun j => ?_⟩
  · exact H.widen okC (fun k hk => by rcases hk with hk | hk
                                      · exact .inl hk
                                      · exact .inr (by omega)) ((Below.refl _ W0).alloc (Nat.le_refl _) _) (fun k hk => by
      have := hb.size
      rcases hk with hk | hk
      · simp; omega
      · simp; omega)
  · exact AtArrV.new _ W0 12 _ (by omega) _ rfl
  · unfold tcount; rw [List.filter_eq_nil_iff.2 (fun _ _ => by simp)]; rfl
  · rw [← Bool.not_eq_true, old_iff, pnm_path]
    by_cases hj : j < 1
    · rw [if_pos hj]; exact fun h => h.1.2 rfl
    · rw [if_neg hj]; exact fun h => h.1.1 rfl
end

set_option maxRecDepth 100000 in
set_option maxHeartbeats 8000000 in
theorem paths_in (l : List Int) (n cn : Nat) (A : Option Addr) (m0 : Int) (m : Nat) (w : World) (hn : l.length = n) (hr : Rd w A (l.map (Value.int .i64))) (hn2 : n ≤ 9223372036854775807) (hm : m < 9)
    (D1 : Hid (∀ w : World, Calls Try.prog 25 #[.int .i64 m0, .int .i64 9] w fun e w' => e = .returned (.int .i64 m) ∧ w = w')) :
    Calls Try.prog 6 #[.slice A n cn, .int .i64 m0] w fun e w' => e = .returned (.bool true) ∧ Below w.heap.size w w' := by
  have CG16 := Lib.hid (fun (j : Nat) (hj : j ≤ 20) w => grow_any 16 j w (by omega) (by omega))
  replace hr := Lib.hid hr
  replace hn := Lib.hid hn
  go_enter Try.func6, Try.ntmps6
  by_cases hn20 : 20 < n
  · have d0 : decide (20 < (n : Int)) = true := decide_eq_true (by omega)
    have d0n : decide (20 < n) = true := decide_eq_true hn20
    go_wp2_with fail
    refine (awake_any w).mono ?_
    rintro e w5 ⟨rfl, b5⟩
    replace b5 := Lib.hid b5
    go_wp2_with fail
    go_ret
    exact ⟨rfl, b5.out⟩
  · have d0 : decide (20 < (n : Int)) = false := decide_eq_false (by omega)
    have d0n : decide (20 < n) = false := decide_eq_false hn20
    have hn3 : n ≤ 20 := by omega
    clear hn20 hn2
    go_wp2_with fail
    refine (D1.out _).mono ?_
    rintro e w' ⟨rfl, rfl⟩
    clear D1 d0 d0n
    go_wp2_with fail
    refine (cnew_at (P := fun k => k < w.heap.size) (fun k hk => by simp; omega) (pid 0) (some ⟨w.heap.size, 0, none⟩) 8 rfl (by have := Rd.fresh_mark w (bv (pid 0)) 5 (0, 0); exact this)).mono ?_
    rintro e w2 ⟨p, rfl, H, b2, _⟩
    have HS : Hid (At OC (fun k => k < w.heap.size) w2 p (pa 0) ∧ Below w.heap.size w w2) := Lib.hid ⟨by rw [← pa_start]; exact H, ((Below.refl _ w).alloc (Nat.le_refl _) _).trans (b2.mono (by simp))⟩
    clear H b2
    go_wp2_with fail
    go_loopw [6] (fun i wr => ∃ k : Nat, k ≤ m ∧ i = .int .i64 ((k : Int) + 1) ∧ Hid (At OC (fun k => k < w.heap.size) wr p (pa k) ∧ Below w.heap.size w wr)) (fun i _ => m + 2 - (intOf i).toNat)
    case atStart => exact ⟨0, by omega, rfl, HS⟩
    case round =>
      clear HS
      obtain ⟨k, hk, rfl, HS⟩ := hrel
      by_cases hkm : k + 1 ≤ m
      · rename_i aa; clear aa
        have d1 : decide ((k : Int) + 1 ≤ (m : Int)) = true := decide_eq_true (by omega)
        have d1n : decide (k + 1 ≤ m) = true := decide_eq_true hkm
        have d1k : decide (k < m) = true := decide_eq_true hkm
        have hw8 : IntKind.u8.wrap ((k : Int) + 1) = (k : Int) + 1 := by rw [IntKind.wrap_u8]; omega
        have ST := Lib.hid (pa_step (k := k) (by omega))
        have RP := Lib.hid (fun W => Rd.fresh_mark W (bv (pid (k + 1))) 5 (0, 0))
        rw [pid_bv (by omega)] at RP
        have hpl : Hid ((pa k).l.length = k + 1) := Lib.hid (pst_len _ _ _ _ _ _ _)
        have hkb : k + 1 ≤ 9 := by omega
        have hkm2 := Lib.hid hkm
        clear hkm
        go_wp2_with fail
        refine (CG16.out (k + 1) (by omega) _).mono ?_
        rintro e w4 ⟨A4, c4, rfl, o4, b4⟩
        have R4 := Lib.hid (Rd.of_own o4)
        have R3 := Lib.hid ((RP.out wr).below b4)
        have bA := ((Below.refl _ wr).alloc (Nat.le_refl _) (.cells #[.int .u8 ((k : Int) + 1), .int .u8 0, .int .u8 0, .int .u8 0, .int .u8 0, .int .u8 0, .int .u8 0, .int .u8 0] 5)).trans (b4.mono (by simp))
        replace HS := Lib.hid (And.intro (HS.out.1.below okC bA) (HS.out.2.trans (bA.mono HS.out.2.size)))
        clear o4 b4 bA
        go_wp2_with fail
        refine (cadd_at 0 (pa (k + 1)) HS.out.1 (k + 1) (pid (k + 1)) (gtok (k + 1)) (some ⟨wr.heap.size, 0, none⟩) A4 8 16 8 c4 (pid_len _) (gtok_len (by omega)) (by rw [pid_bv (by omega)]; exact R3.out) (by rw [gtok_eq (by omega)]; exact R4.out) (by have := hpl.out; omega) ST.out.2 ST.out.1).mono ?_
        rintro e w5 ⟨rfl, H5, F5⟩
        replace HS := Lib.hid (And.intro H5 (fp_below HS.out.2 HS.out.2.size (fun _ h => h) F5))
        clear H5 F5 R3 R4
        go_wp2_with fail
        go_roundw
        case rel => exact ⟨k + 1, by have := hkm2.out; omega, by go_num, HS⟩
        case measure => have := hkm2.out; simp [intOf] <;> omega
      · obtain rfl : k = m := by omega
        have d1 : decide ((k : Int) + 1 ≤ (k : Int)) = false := decide_eq_false (by omega)
        have d1n : decide (k + 1 ≤ k) = false := decide_eq_false hkm
        have d1k : decide (k < k) = false := decide_eq_false (by omega)
        clear hkm
        have PS0 := Lib.hid (PS.start HS.out.1 HS.out.2)
        have hgg : Hid (w.heap.size ≤ wr.heap.size) := Lib.hid HS.out.2.size
        clear HS
        obtain ⟨g, hg⟩ : ∃ g, wr.heap.size = g := ⟨_, rfl⟩
        rw [hg] at PS0 hgg
        go_wp2_with fail
        try rw [hg]
        have PS1 : Hid (PS pid w p g k 1 0 (wr.alloc (.cells #[.int .i64 1, .int .i64 0, .int .i64 0, .int .i64 0, .int .i64 0, .int .i64 0, .int .i64 0, .int .i64 0, .int .i64 0, .int .i64 0, .int .i64 0, .int .i64 0] 51))) := Lib.hid (PS0.out _ rfl)
        obtain ⟨W0, hW0⟩ : ∃ W0, wr.alloc (.cells #[.int .i64 1, .int .i64 0, .int .i64 0, .int .i64 0, .int .i64 0, .int .i64 0, .int .i64 0, .int .i64 0, .int .i64 0, .int .i64 0, .int .i64 0, .int .i64 0] 51) = W0 := ⟨_, rfl⟩
        rw [hW0] at PS1 ⊢
        clear PS0 hg hW0 d1 d1n d1k
        go_loopw [8, 9, 10, 11, 12, 13] (fun nx tl i _ _ _ wq => ∃ (j next tot : Nat), j ≤ n ∧ nx = .int .i64 next ∧ tl = .int .i64 tot ∧ i = .int .i64 j ∧ next ≤ k + 1 ∧ tot ≤ next ∧ Hid (PS pid w p g k next tot wq)) (fun _ _ i _ _ _ _ => n - (intOf i).toNat)
        case atStart => exact ⟨0, 1, 0, by omega, rfl, rfl, rfl, by omega, by omega, PS1⟩
        case round =>
          clear PS1
          obtain ⟨j, next, tot, hj, rfl, rfl, rfl, hnx, htt, HP⟩ := hrel
          by_cases hjn : j < n
          · rename_i aa; clear aa
            have hjl : j < l.length := by rw [hn.out]; exact hjn
            obtain ⟨hv, pth, td, use, HM, _⟩ := HP.out
            obtain ⟨bA, oA, rfl, z0⟩ := ((hr.out.fr (Fr.of_below HM.bel NoS) (fun _ _ _ x => x)).at_ (k := j) (by simpa using hjl))
            rw [List.getElem_map] at z0
            obtain ⟨x, hx⟩ : ∃ x, l[j] = x := ⟨_, rfl⟩
            rw [hx] at z0
            clear hx hjl HP
            obtain ⟨kk, hkk, D⟩ := low_ex x 12 (by omega) (by omega)
            have hj0 : (0 : Int) ≤ (j : Int) := by omega
            have hji : (j : Int) < (n : Int) := by omega
            have hkki : (kk : Int) < 12 := by omega
            replace D := Lib.hid D
            have ga : wr.cell? ⟨g, kk, none⟩ = some (.int .i64 (hv kk : Int)) := HM.arr.cell hkk
            rcases Nat.eq_zero_or_pos (hv kk) with hz | hz
            · by_cases hnm : next ≤ k
              · -- it gets one
                have CB := Lib.hid (HM.forB hkk hz hnm (by have := hgg.out; omega))
                rw [hz] at ga
                have ga : wr.cell? ⟨g, kk, none⟩ = some (.int .i64 0) := ga
                have d3 : decide ((next : Int) ≤ (k : Int)) = true := decide_eq_true (by omega)
                have d3n : decide (next ≤ k) = true := decide_eq_true hnm
                clear hz HM
                go_wp2_with fail
                refine (D.out _).mono ?_
                rintro e w' ⟨rfl, rfl⟩
                clear D z0 ga
                go_wp2_with fail
                refine CB.out.mono ?_
                rintro e w3 ⟨b3, c3, rfl, hbg, g0, f0, h8, HM⟩
                have HM2 := Lib.hid (HM.out _ rfl)
                clear CB HM
                go_upto_region 22 with fail
                obtain ⟨wz, hwz⟩ : ∃ wz, w3.setCell ⟨g, kk, none⟩ (.int .i64 ((next : Int) + 1)) = wz := ⟨_, rfl⟩
                rw [hwz] at HM2 ⊢
                obtain ⟨R3, HM⟩ := HM2.out
                have ga : wz.cell? ⟨g, kk, none⟩ = some (.int .i64 ((next : Int) + 1)) := by
                  have := HM.arr.cell hkk
                  simpa using this
                have gb : wz.cell? ⟨b3, 0, none⟩ = some (.int .u8 (next : Int)) := by
                  obtain ⟨b, o, e, hc⟩ := R3 (by rw [bv_length, h8]; omega)
                  injection e with e; injection e with e1 e2
                  subst e1 e2
                  exact hc 0 _ (by rw [pid_bv (by omega)]; rfl)
                replace HM := Lib.hid HM
                clear HM2 R3 h8 hwz g0 f0 d3 d3n
                have LE := HM.out.le
                obtain ⟨FR, hFR⟩ : ∃ FR, k + 1 - (next + 1) = FR := ⟨_, rfl⟩
                have hFI : (k : Int) + 1 - ((next : Int) + 1) = (FR : Int) := by omega
                have CF := Lib.hid ((HM.out.below (Still.drew wz).below).free FR hFR)
                have bd : Below wz.heap.size wz wz.drew := (Still.drew wz).below
                have hFw : IntKind.i64.wrap ((k : Int) + 1) = (k : Int) + 1 := by rw [IntKind.wrap_i64]; omega
                have hFw2 : IntKind.i64.wrap ((k : Int) + 1 - ((next : Int) + 1)) = (FR : Int) := by rw [IntKind.wrap_i64]; omega
                have hFI2 : (k : Int) - (next : Int) = (FR : Int) := by omega
                have hFw3 : IntKind.i64.wrap ((k : Int) - (next : Int)) = (FR : Int) := by rw [IntKind.wrap_i64]; omega
                have hFb : FR ≤ 9 := by omega
                have hFRw : IntKind.i64.wrap (FR : Int) = (FR : Int) := by rw [IntKind.wrap_i64]; omega
                clear hFR

                have KS : Hid (∀ W, Below wz.heap.size wz W → W.cell? ⟨g, kk, none⟩ = some (.int .i64 ((next : Int) + 1)) ∧ W.cell? ⟨b3, 0, none⟩ = some (.int .u8 (next : Int))) := Lib.hid (fun W hb => ⟨(hb.cell (World.block_lt_of_cell? wz _ ga)).trans ga, (hb.cell (World.block_lt_of_cell? wz _ gb)).trans gb⟩)
                have hJw : IntKind.i64.wrap (next : Int) = (next : Int) := by rw [IntKind.wrap_i64]; omega
                have hJw2 : IntKind.i64.wrap ((next : Int) + 1 - 1) = (next : Int) := by rw [IntKind.wrap_i64]; omega
                have dJ : decide ((0 : Int) < (next : Int) + 1) = true := decide_eq_true (by omega)
                have dJn : decide (0 < next + 1) = true := decide_eq_true (by omega)
                go_upto_region 22 with fail
                refine wp_region_held_drew (S := fun W => W.cell? ⟨g, kk, none⟩ = some (.int .i64 ((next : Int) + 1)) ∧ W.cell? ⟨b3, 0, none⟩ = some (.int .u8 (next : Int))) (by kernel_rfl) (KS.out _ bd) (fun hHeld => ?_)
                refine wpAnyH_take (i := 0) (v := ?_) rfl (by kernel_rfl) (by kernel_rfl) (by kernel_rfl) (fun _ _ _ h => h) (Or.inl ⟨by rfl, ?_⟩) (by assumption) ?_
                rotate_left 1
                · (intro w hSw; (try dsimp only at hSw); (try go_split_ands); go_simp; try with_reducible rfl)
                try simp only [Act.put, List.setIfInBounds_toArray, List.set_cons_zero, List.set_cons_succ, List.getElem_toArray, List.getElem_cons_zero, List.getElem_cons_succ]
                refine wpAnyH_take (i := 1) (v := ?_) rfl (by kernel_rfl) (by kernel_rfl) (by kernel_rfl) (fun _ _ _ h => h) (Or.inl ⟨by rfl, ?_⟩) (by assumption) ?_
                rotate_left 1
                · (intro w hSw; (try dsimp only at hSw); (try go_split_ands); go_simp; try with_reducible rfl)
                try simp only [Act.put, List.setIfInBounds_toArray, List.set_cons_zero, List.set_cons_succ, List.getElem_toArray, List.getElem_cons_zero, List.getElem_cons_succ]
                refine wpAnyH_take (i := 2) (v := ?_) rfl (by kernel_rfl) (by kernel_rfl) (by kernel_rfl) (fun _ _ _ h => h) (Or.inl ⟨by rfl, ?_⟩) (by assumption) ?_
                rotate_left 1
                · (intro w hSw; (try dsimp only at hSw); (try go_split_ands); go_simp; try with_reducible rfl)
                try simp only [Act.put, List.setIfInBounds_toArray, List.set_cons_zero, List.set_cons_succ, List.getElem_toArray, List.getElem_cons_zero, List.getElem_cons_succ]
                refine wpAnyH_take (i := 3) (v := ?_) rfl (by kernel_rfl) (by kernel_rfl) (by kernel_rfl) (fun _ _ _ h => h) (Or.inl ⟨by rfl, ?_⟩) (by assumption) ?_
                rotate_left 1
                · (intro w hSw; (try dsimp only at hSw); (try go_split_ands); go_simp; try with_reducible rfl)
                try simp only [Act.put, List.setIfInBounds_toArray, List.set_cons_zero, List.set_cons_succ, List.getElem_toArray, List.getElem_cons_zero, List.getElem_cons_succ]
                refine wpAnyH_take (i := 4) (v := ?_) rfl (by kernel_rfl) (by kernel_rfl) (by kernel_rfl) (fun _ _ _ h => h) (Or.inl ⟨by rfl, ?_⟩) (by assumption) ?_
                rotate_left 1
                · (intro w hSw; (try dsimp only at hSw); (try go_split_ands); go_simp; try with_reducible rfl)
                try simp only [Act.put, List.setIfInBounds_toArray, List.set_cons_zero, List.set_cons_succ, List.getElem_toArray, List.getElem_cons_zero, List.getElem_cons_succ]
                refine wpAnyH_take (i := 5) (v := ?_) rfl (by kernel_rfl) (by kernel_rfl) (by kernel_rfl) (fun _ _ _ h => h) (Or.inl ⟨by rfl, ?_⟩) (by assumption) ?_
                rotate_left 1
                · (intro w hSw; (try dsimp only at hSw); (try go_split_ands); go_simp; try with_reducible rfl)
                try simp only [Act.put, List.setIfInBounds_toArray, List.set_cons_zero, List.set_cons_succ, List.getElem_toArray, List.getElem_cons_zero, List.getElem_cons_succ]
                refine wpAnyH_take (i := 6) (v := ?_) rfl (by kernel_rfl) (by kernel_rfl) (by kernel_rfl) (fun _ _ _ h => h) (Or.inl ⟨by rfl, ?_⟩) (by assumption) ?_
                rotate_left 1
                · (intro w hSw; (try dsimp only at hSw); (try go_split_ands); go_simp; try with_reducible rfl)
                try simp only [Act.put, List.setIfInBounds_toArray, List.set_cons_zero, List.set_cons_succ, List.getElem_toArray, List.getElem_cons_zero, List.getElem_cons_succ]
                refine wpAnyH_take (i := 7) (v := ?_) rfl (by kernel_rfl) (by kernel_rfl) (by kernel_rfl) (fun _ _ _ h => h) (Or.inl ⟨by rfl, ?_⟩) (by assumption) ?_
                rotate_left 1
                · (intro w hSw; (try dsimp only at hSw); (try go_split_ands); go_simp; try with_reducible rfl)
                try simp only [Act.put, List.setIfInBounds_toArray, List.set_cons_zero, List.set_cons_succ, List.getElem_toArray, List.getElem_cons_zero, List.getElem_cons_succ]
                refine wpAnyH_take (i := 8) (v := ?_) rfl (by kernel_rfl) (by kernel_rfl) (by kernel_rfl) (fun _ _ _ h => h) (Or.inl ⟨by rfl, ?_⟩) (by assumption) ?_
                rotate_left 1
                · (intro w hSw; (try dsimp only at hSw); (try go_split_ands); go_simp; try with_reducible rfl)
                try simp only [Act.put, List.setIfInBounds_toArray, List.set_cons_zero, List.set_cons_succ, List.getElem_toArray, List.getElem_cons_zero, List.getElem_cons_succ]
                refine wpAnyH_take (i := 9) (v := ?_) rfl (by kernel_rfl) (by kernel_rfl) (by kernel_rfl) (fun _ _ _ h => h) (Or.inl ⟨by rfl, ?_⟩) (by assumption) ?_
                rotate_left 1
                · (intro w hSw; (try dsimp only at hSw); (try go_split_ands); go_simp; try with_reducible rfl)
                try simp only [Act.put, List.setIfInBounds_toArray, List.set_cons_zero, List.set_cons_succ, List.getElem_toArray, List.getElem_cons_zero, List.getElem_cons_succ]
                refine wpAnyH_take (i := 10) (v := ?_) rfl (by kernel_rfl) (by kernel_rfl) (by kernel_rfl) (fun _ _ _ h => h) (Or.inl ⟨by rfl, ?_⟩) (by assumption) ?_
                rotate_left 1
                · (intro w hSw; (try dsimp only at hSw); (try go_split_ands); go_simp; try with_reducible rfl)
                try simp only [Act.put, List.setIfInBounds_toArray, List.set_cons_zero, List.set_cons_succ, List.getElem_toArray, List.getElem_cons_zero, List.getElem_cons_succ]
                refine wpAnyH_take (i := 11) (v := ?_) rfl (by kernel_rfl) (by kernel_rfl) (by kernel_rfl) (fun _ _ _ h => h) (Or.inl ⟨by rfl, ?_⟩) (by assumption) ?_
                rotate_left 1
                · (intro w hSw; (try dsimp only at hSw); (try go_split_ands); go_simp; try with_reducible rfl)
                try simp only [Act.put, List.setIfInBounds_toArray, List.set_cons_zero, List.set_cons_succ, List.getElem_toArray, List.getElem_cons_zero, List.getElem_cons_succ]
                refine wpAnyH_take (i := 12) (v := ?_) rfl (by kernel_rfl) (by kernel_rfl) (by kernel_rfl) (fun _ _ _ h => h) (Or.inl ⟨by rfl, ?_⟩) (by assumption) ?_
                rotate_left 1
                · (intro w hSw; (try dsimp only at hSw); (try go_split_ands); go_simp; try with_reducible rfl)
                try simp only [Act.put, List.setIfInBounds_toArray, List.set_cons_zero, List.set_cons_succ, List.getElem_toArray, List.getElem_cons_zero, List.getElem_cons_succ]
                refine wpAnyH_take (i := 13) (v := ?_) rfl (by kernel_rfl) (by kernel_rfl) (by kernel_rfl) (fun _ _ _ h => h) (Or.inl ⟨by rfl, ?_⟩) (by assumption) ?_
                rotate_left 1
                · (intro w hSw; (try dsimp only at hSw); (try go_split_ands); go_simp; try with_reducible rfl)
                try simp only [Act.put, List.setIfInBounds_toArray, List.set_cons_zero, List.set_cons_succ, List.getElem_toArray, List.getElem_cons_zero, List.getElem_cons_succ]
                refine wpAnyH_take (i := 14) (v := ?_) rfl (by kernel_rfl) (by kernel_rfl) (by kernel_rfl) (fun _ _ _ h => h) (Or.inl ⟨by rfl, ?_⟩) (by assumption) ?_
                rotate_left 1
                · (intro w hSw; (try dsimp only at hSw); (try go_split_ands); go_simp; try with_reducible rfl)
                try simp only [Act.put, List.setIfInBounds_toArray, List.set_cons_zero, List.set_cons_succ, List.getElem_toArray, List.getElem_cons_zero, List.getElem_cons_succ]
                refine wpAnyH_take (i := 15) (v := ?_) rfl (by kernel_rfl) (by kernel_rfl) (by kernel_rfl) (fun _ _ _ h => h) (Or.inl ⟨by rfl, ?_⟩) (by assumption) ?_
                rotate_left 1
                · (intro w hSw; (try dsimp only at hSw); (try go_split_ands); go_simp; try with_reducible rfl)
                try simp only [Act.put, List.setIfInBounds_toArray, List.set_cons_zero, List.set_cons_succ, List.getElem_toArray, List.getElem_cons_zero, List.getElem_cons_succ]
                refine wpAnyH_take (i := 16) (v := ?_) rfl (by kernel_rfl) (by kernel_rfl) (by kernel_rfl) (fun _ _ _ h => h) (Or.inl ⟨by rfl, ?_⟩) (by assumption) ?_
                rotate_left 1
                · (intro w hSw; (try dsimp only at hSw); (try go_split_ands); go_simp; try with_reducible rfl)
                try simp only [Act.put, List.setIfInBounds_toArray, List.set_cons_zero, List.set_cons_succ, List.getElem_toArray, List.getElem_cons_zero, List.getElem_cons_succ]
                refine wpAnyH_take (i := 17) (v := ?_) rfl (by kernel_rfl) (by kernel_rfl) (by kernel_rfl) (fun _ _ _ h => h) (Or.inl ⟨by rfl, ?_⟩) (by assumption) ?_
                rotate_left 1
                · (intro w hSw; (try dsimp only at hSw); (try go_split_ands); go_simp; try with_reducible rfl)
                try simp only [Act.put, List.setIfInBounds_toArray, List.set_cons_zero, List.set_cons_succ, List.getElem_toArray, List.getElem_cons_zero, List.getElem_cons_succ]
                refine wpAnyH_take (i := 18) (v := ?_) rfl (by kernel_rfl) (by kernel_rfl) (by kernel_rfl) (fun _ _ _ h => h) (Or.inl ⟨by rfl, ?_⟩) (by assumption) ?_
                rotate_left 1
                · (intro w hSw; (try dsimp only at hSw); (try go_split_ands); go_simp; try with_reducible rfl)
                try simp only [Act.put, List.setIfInBounds_toArray, List.set_cons_zero, List.set_cons_succ, List.getElem_toArray, List.getElem_cons_zero, List.getElem_cons_succ]
                refine wpAnyH_take (i := 19) (v := ?_) rfl (by kernel_rfl) (by kernel_rfl) (by kernel_rfl) (fun _ _ _ h => h) (Or.inl ⟨by rfl, ?_⟩) (by assumption) ?_
                rotate_left 1
                · (intro w hSw; (try dsimp only at hSw); (try go_split_ands); go_simp; try with_reducible rfl)
                try simp only [Act.put, List.setIfInBounds_toArray, List.set_cons_zero, List.set_cons_succ, List.getElem_toArray, List.getElem_cons_zero, List.getElem_cons_succ]
                refine wpAnyH_take (i := 20) (v := ?_) rfl (by kernel_rfl) (by kernel_rfl) (by kernel_rfl) (fun _ _ _ h => h) (Or.inl ⟨by rfl, ?_⟩) (by assumption) ?_
                rotate_left 1
                · (intro w hSw; (try dsimp only at hSw); (try go_split_ands); go_simp; try with_reducible rfl)
                try simp only [Act.put, List.setIfInBounds_toArray, List.set_cons_zero, List.set_cons_succ, List.getElem_toArray, List.getElem_cons_zero, List.getElem_cons_succ]
                refine wpAnyH_take (i := 21) (v := ?_) rfl (by kernel_rfl) (by kernel_rfl) (by kernel_rfl) (fun _ _ _ h => h) (Or.inl ⟨by rfl, ?_⟩) (by assumption) ?_
                rotate_left 1
                · (intro w hSw; (try dsimp only at hSw); (try go_split_ands); go_simp; try with_reducible rfl)
                try simp only [Act.put, List.setIfInBounds_toArray, List.set_cons_zero, List.set_cons_succ, List.getElem_toArray, List.getElem_cons_zero, List.getElem_cons_succ]
                refine wpAnyH_take (i := 22) (v := ?_) rfl (by kernel_rfl) (by kernel_rfl) (by kernel_rfl) (fun _ _ _ h => h) (Or.inl ⟨by rfl, ?_⟩) (by assumption) ?_
                rotate_left 1
                · (intro w hSw; (try dsimp only at hSw); (try go_split_ands); go_simp; try with_reducible rfl)
                try simp only [Act.put, List.setIfInBounds_toArray, List.set_cons_zero, List.set_cons_succ, List.getElem_toArray, List.getElem_cons_zero, List.getElem_cons_succ]
                refine wpAnyH_take (i := 23) (v := ?_) rfl (by kernel_rfl) (by kernel_rfl) (by kernel_rfl) (fun _ _ _ h => h) (Or.inl ⟨by rfl, ?_⟩) (by assumption) ?_
                rotate_left 1
                · (intro w hSw; (try dsimp only at hSw); (try go_split_ands); go_simp; try with_reducible rfl)
                try simp only [Act.put, List.setIfInBounds_toArray, List.set_cons_zero, List.set_cons_succ, List.getElem_toArray, List.getElem_cons_zero, List.getElem_cons_succ]
                refine wpAnyH_take (i := 24) (v := ?_) rfl (by kernel_rfl) (by kernel_rfl) (by kernel_rfl) (fun _ _ _ h => h) (Or.inl ⟨by rfl, ?_⟩) (by assumption) ?_
                rotate_left 1
                · (intro w hSw; (try dsimp only at hSw); (try go_split_ands); go_simp; try with_reducible rfl)
                try simp only [Act.put, List.setIfInBounds_toArray, List.set_cons_zero, List.set_cons_succ, List.getElem_toArray, List.getElem_cons_zero, List.getElem_cons_succ]
                refine wpAnyH_take (i := 25) (v := ?_) rfl (by kernel_rfl) (by kernel_rfl) (by kernel_rfl) (fun _ _ _ h => h) (Or.inl ⟨by rfl, ?_⟩) (by assumption) ?_
                rotate_left 1
                · (intro w hSw; (try dsimp only at hSw); (try go_split_ands); go_simp; try with_reducible rfl)
                try simp only [Act.put, List.setIfInBounds_toArray, List.set_cons_zero, List.set_cons_succ, List.getElem_toArray, List.getElem_cons_zero, List.getElem_cons_succ]
                refine wpAnyH_take (i := 26) (v := ?_) rfl (by kernel_rfl) (by kernel_rfl) (by kernel_rfl) (fun _ _ _ h => h) (Or.inl ⟨by rfl, ?_⟩) (by assumption) ?_
                rotate_left 1
                · (intro w hSw; (try dsimp only at hSw); (try go_split_ands); go_simp; try with_reducible rfl)
                try simp only [Act.put, List.setIfInBounds_toArray, List.set_cons_zero, List.set_cons_succ, List.getElem_toArray, List.getElem_cons_zero, List.getElem_cons_succ]
                refine wpAnyH_take (i := 28) (v := ?_) rfl (by kernel_rfl) (by kernel_rfl) (by kernel_rfl) (fun _ _ _ h => h) (Or.inl ⟨by rfl, ?_⟩) (by assumption) ?_
                rotate_left 1
                · (intro w hSw; (try dsimp only at hSw); (try go_split_ands); go_simp; try with_reducible rfl)
                try simp only [Act.put, List.setIfInBounds_toArray, List.set_cons_zero, List.set_cons_succ, List.getElem_toArray, List.getElem_cons_zero, List.getElem_cons_succ]
                refine wpAnyH_take (i := 29) (v := ?_) rfl (by kernel_rfl) (by kernel_rfl) (by kernel_rfl) (fun _ _ _ h => h) (Or.inl ⟨by rfl, ?_⟩) (by assumption) ?_
                rotate_left 1
                · (intro w hSw; (try dsimp only at hSw); (try go_split_ands); go_simp; try with_reducible rfl)
                try simp only [Act.put, List.setIfInBounds_toArray, List.set_cons_zero, List.set_cons_succ, List.getElem_toArray, List.getElem_cons_zero, List.getElem_cons_succ]
                refine wpAnyH_take (i := 30) (v := ?_) rfl (by kernel_rfl) (by kernel_rfl) (by kernel_rfl) (fun _ _ _ h => h) (Or.inl ⟨by rfl, ?_⟩) (by assumption) ?_
                rotate_left 1
                · (intro w hSw; (try dsimp only at hSw); (try go_split_ands); go_simp; try with_reducible rfl)
                try simp only [Act.put, List.setIfInBounds_toArray, List.set_cons_zero, List.set_cons_succ, List.getElem_toArray, List.getElem_cons_zero, List.getElem_cons_succ]
                refine wpAnyH_take (i := 31) (v := ?_) rfl (by kernel_rfl) (by kernel_rfl) (by kernel_rfl) (fun _ _ _ h => h) (Or.inl ⟨by rfl, ?_⟩) (by assumption) ?_
                rotate_left 1
                · (intro w hSw; (try dsimp only at hSw); (try go_split_ands); go_simp; try with_reducible rfl)
                try simp only [Act.put, List.setIfInBounds_toArray, List.set_cons_zero, List.set_cons_succ, List.getElem_toArray, List.getElem_cons_zero, List.getElem_cons_succ]
                refine wpAnyH_ready (rs := [27]) (by kernel_rfl) (by simp) ?_
                refine AllReadyH.cons rfl (fun K hK => ?_) AllReadyH.nil
                go_simp; go_at_call 12; refine CF.out.mono ?_; rintro e w5 ⟨rfl, b5⟩; have b6 : Below wz.heap.size wz w5 := bd.trans b5
                refine hK.out _ _ (KS.out _ b6) (fun hHeld => ?_)
                clear hK K
                try simp only [Act.put, List.setIfInBounds_toArray, List.set_cons_zero, List.set_cons_succ, List.getElem_toArray, List.getElem_cons_zero, List.getElem_cons_succ]
                refine wpAnyH_take (i := 32) (v := ?_) rfl (by kernel_rfl) (by kernel_rfl) (by kernel_rfl) (fun _ _ _ h => h) (Or.inl ⟨by rfl, ?_⟩) (by assumption) ?_
                rotate_left 1
                · (intro w hSw; (try dsimp only at hSw); (try go_split_ands); go_simp; try with_reducible rfl)
                try simp only [Act.put, List.setIfInBounds_toArray, List.set_cons_zero, List.set_cons_succ, List.getElem_toArray, List.getElem_cons_zero, List.getElem_cons_succ]
                refine wpAnyH_take (i := 33) (v := ?_) rfl (by kernel_rfl) (by kernel_rfl) (by kernel_rfl) (fun _ _ _ h => h) (Or.inl ⟨by rfl, ?_⟩) (by assumption) ?_
                rotate_left 1
                · (intro w hSw; (try dsimp only at hSw); (try go_split_ands); go_simp; try with_reducible rfl)
                try simp only [Act.put, List.setIfInBounds_toArray, List.set_cons_zero, List.set_cons_succ, List.getElem_toArray, List.getElem_cons_zero, List.getElem_cons_succ]
                refine wpAnyH_done (by kernel_rfl) ?_ _
                clear hHeld

                replace HM := Lib.hid (HM.out.below (bd.trans b5))
                clear b5 b6 CF KS bd ga gb
                obtain ⟨lr, hlr, CR⟩ := HM.out.ret
                replace CR := Lib.hid CR
                replace hlr := Lib.hid hlr
                have hlb : lr ≤ 20 := by have := hlr.out; omega
                have htb : tot ≤ 20 := by omega
                clear HM
                go_wp2_with fail
                refine CR.out.mono ?_
                rintro e w6 ⟨A6, c6, rfl, HP⟩
                replace HP := Lib.hid HP
                clear CR
                go_wp2_with fail
                go_roundw
                case rel => exact ⟨j + 1, (next + 1), tot + lr, by omega, by go_num, by go_num, by go_num, by omega, hlr.out, HP⟩
                case measure => simp [intOf] <;> omega
              · -- it gets none
                have CC := Lib.hid (HM.forC hz hnm)
                rw [hz] at ga
                have ga : wr.cell? ⟨g, kk, none⟩ = some (.int .i64 0) := ga
                have d3 : decide ((next : Int) ≤ (k : Int)) = false := decide_eq_false (by omega)
                have d3n : decide (next ≤ k) = false := decide_eq_false hnm
                clear HM
                go_wp2_with fail
                refine (D.out _).mono ?_
                rintro e w' ⟨rfl, rfl⟩
                clear D z0 ga
                go_wp2_with fail
                refine CC.out.mono ?_
                rintro e wz ⟨rfl, HM⟩
                have ga : wz.cell? ⟨g, kk, none⟩ = some (.int .i64 0) := by
                  have := HM.arr.cell hkk
                  rw [hz] at this
                  exact this
                replace HM := Lib.hid HM
                clear CC hz
                have LE := HM.out.le
                obtain ⟨FR, hFR⟩ : ∃ FR, k + 1 - next = FR := ⟨_, rfl⟩
                have hFI : (k : Int) + 1 - (next : Int) = (FR : Int) := by omega
                have CF := Lib.hid ((HM.out.below (Still.drew wz).below).free FR hFR)
                have bd : Below wz.heap.size wz wz.drew := (Still.drew wz).below
                have hFw : IntKind.i64.wrap ((k : Int) + 1) = (k : Int) + 1 := by rw [IntKind.wrap_i64]; omega
                have hFw2 : IntKind.i64.wrap ((k : Int) + 1 - (next : Int)) = (FR : Int) := by rw [IntKind.wrap_i64]; omega
                have hFb : FR ≤ 9 := by omega
                have hFRw : IntKind.i64.wrap (FR : Int) = (FR : Int) := by rw [IntKind.wrap_i64]; omega
                clear hFR

                have KS : Hid (∀ W, Below wz.heap.size wz W → W.cell? ⟨g, kk, none⟩ = some (.int .i64 0)) := Lib.hid (fun W hb => (hb.cell (World.block_lt_of_cell? wz _ ga)).trans ga)
                go_upto_region 22 with fail
                refine wp_region_held_drew (S := fun W => W.cell? ⟨g, kk, none⟩ = some (.int .i64 0)) (by kernel_rfl) (KS.out _ bd) (fun hHeld => ?_)
                refine wpAnyH_take (i := 0) (v := ?_) rfl (by kernel_rfl) (by kernel_rfl) (by kernel_rfl) (fun _ _ _ h => h) (Or.inl ⟨by rfl, ?_⟩) (by assumption) ?_
                rotate_left 1
                · (intro w hSw; (try dsimp only at hSw); (try go_split_ands); go_simp; try with_reducible rfl)
                try simp only [Act.put, List.setIfInBounds_toArray, List.set_cons_zero, List.set_cons_succ, List.getElem_toArray, List.getElem_cons_zero, List.getElem_cons_succ]
                refine wpAnyH_take (i := 1) (v := ?_) rfl (by kernel_rfl) (by kernel_rfl) (by kernel_rfl) (fun _ _ _ h => h) (Or.inl ⟨by rfl, ?_⟩) (by assumption) ?_
                rotate_left 1
                · (intro w hSw; (try dsimp only at hSw); (try go_split_ands); go_simp; try with_reducible rfl)
                try simp only [Act.put, List.setIfInBounds_toArray, List.set_cons_zero, List.set_cons_succ, List.getElem_toArray, List.getElem_cons_zero, List.getElem_cons_succ]
                refine wpAnyH_take (i := 2) (v := ?_) rfl (by kernel_rfl) (by kernel_rfl) (by kernel_rfl) (fun _ _ _ h => h) (Or.inl ⟨by rfl, ?_⟩) (by assumption) ?_
                rotate_left 1
                · (intro w hSw; (try dsimp only at hSw); (try go_split_ands); go_simp; try with_reducible rfl)
                try simp only [Act.put, List.setIfInBounds_toArray, List.set_cons_zero, List.set_cons_succ, List.getElem_toArray, List.getElem_cons_zero, List.getElem_cons_succ]
                refine wpAnyH_take (i := 3) (v := ?_) rfl (by kernel_rfl) (by kernel_rfl) (by kernel_rfl) (fun _ _ _ h => h) (Or.inl ⟨by rfl, ?_⟩) (by assumption) ?_
                rotate_left 1
                · (intro w hSw; (try dsimp only at hSw); (try go_split_ands); go_simp; try with_reducible rfl)
                try simp only [Act.put, List.setIfInBounds_toArray, List.set_cons_zero, List.set_cons_succ, List.getElem_toArray, List.getElem_cons_zero, List.getElem_cons_succ]
                refine wpAnyH_take (i := 4) (v := ?_) rfl (by kernel_rfl) (by kernel_rfl) (by kernel_rfl) (fun _ _ _ h => h) (Or.inl ⟨by rfl, ?_⟩) (by assumption) ?_
                rotate_left 1
                · (intro w hSw; (try dsimp only at hSw); (try go_split_ands); go_simp; try with_reducible rfl)
                try simp only [Act.put, List.setIfInBounds_toArray, List.set_cons_zero, List.set_cons_succ, List.getElem_toArray, List.getElem_cons_zero, List.getElem_cons_succ]
                refine wpAnyH_take (i := 5) (v := ?_) rfl (by kernel_rfl) (by kernel_rfl) (by kernel_rfl) (fun _ _ _ h => h) (Or.inl ⟨by rfl, ?_⟩) (by assumption) ?_
                rotate_left 1
                · (intro w hSw; (try dsimp only at hSw); (try go_split_ands); go_simp; try with_reducible rfl)
                try simp only [Act.put, List.setIfInBounds_toArray, List.set_cons_zero, List.set_cons_succ, List.getElem_toArray, List.getElem_cons_zero, List.getElem_cons_succ]
                refine wpAnyH_take (i := 6) (v := ?_) rfl (by kernel_rfl) (by kernel_rfl) (by kernel_rfl) (fun _ _ _ h => h) (Or.inl ⟨by rfl, ?_⟩) (by assumption) ?_
                rotate_left 1
                · (intro w hSw; (try dsimp only at hSw); (try go_split_ands); go_simp; try with_reducible rfl)
                try simp only [Act.put, List.setIfInBounds_toArray, List.set_cons_zero, List.set_cons_succ, List.getElem_toArray, List.getElem_cons_zero, List.getElem_cons_succ]
                refine wpAnyH_take (i := 7) (v := ?_) rfl (by kernel_rfl) (by kernel_rfl) (by kernel_rfl) (fun _ _ _ h => h) (Or.inl ⟨by rfl, ?_⟩) (by assumption) ?_
                rotate_left 1
                · (intro w hSw; (try dsimp only at hSw); (try go_split_ands); go_simp; try with_reducible rfl)
                try simp only [Act.put, List.setIfInBounds_toArray, List.set_cons_zero, List.set_cons_succ, List.getElem_toArray, List.getElem_cons_zero, List.getElem_cons_succ]
                refine wpAnyH_take (i := 8) (v := ?_) rfl (by kernel_rfl) (by kernel_rfl) (by kernel_rfl) (fun _ _ _ h => h) (Or.inl ⟨by rfl, ?_⟩) (by assumption) ?_
                rotate_left 1
                · (intro w hSw; (try dsimp only at hSw); (try go_split_ands); go_simp; try with_reducible rfl)
                try simp only [Act.put, List.setIfInBounds_toArray, List.set_cons_zero, List.set_cons_succ, List.getElem_toArray, List.getElem_cons_zero, List.getElem_cons_succ]
                refine wpAnyH_take (i := 9) (v := undef) rfl (by kernel_rfl) (by kernel_rfl) (by kernel_rfl) (fun _ _ _ h => h) (Or.inr ⟨by rfl, rfl⟩) (by assumption) ?_
                try simp only [Act.put, List.setIfInBounds_toArray, List.set_cons_zero, List.set_cons_succ, List.getElem_toArray, List.getElem_cons_zero, List.getElem_cons_succ]
                refine wpAnyH_take (i := 10) (v := undef) rfl (by kernel_rfl) (by kernel_rfl) (by kernel_rfl) (fun _ _ _ h => h) (Or.inr ⟨by rfl, rfl⟩) (by assumption) ?_
                try simp only [Act.put, List.setIfInBounds_toArray, List.set_cons_zero, List.set_cons_succ, List.getElem_toArray, List.getElem_cons_zero, List.getElem_cons_succ]
                refine wpAnyH_take (i := 11) (v := undef) rfl (by kernel_rfl) (by kernel_rfl) (by kernel_rfl) (fun _ _ _ h => h) (Or.inr ⟨by rfl, rfl⟩) (by assumption) ?_
                try simp only [Act.put, List.setIfInBounds_toArray, List.set_cons_zero, List.set_cons_succ, List.getElem_toArray, List.getElem_cons_zero, List.getElem_cons_succ]
                refine wpAnyH_take (i := 12) (v := undef) rfl (by kernel_rfl) (by kernel_rfl) (by kernel_rfl) (fun _ _ _ h => h) (Or.inr ⟨by rfl, rfl⟩) (by assumption) ?_
                try simp only [Act.put, List.setIfInBounds_toArray, List.set_cons_zero, List.set_cons_succ, List.getElem_toArray, List.getElem_cons_zero, List.getElem_cons_succ]
                refine wpAnyH_take (i := 13) (v := undef) rfl (by kernel_rfl) (by kernel_rfl) (by kernel_rfl) (fun _ _ _ h => h) (Or.inr ⟨by rfl, rfl⟩) (by assumption) ?_
                try simp only [Act.put, List.setIfInBounds_toArray, List.set_cons_zero, List.set_cons_succ, List.getElem_toArray, List.getElem_cons_zero, List.getElem_cons_succ]
                refine wpAnyH_take (i := 14) (v := undef) rfl (by kernel_rfl) (by kernel_rfl) (by kernel_rfl) (fun _ _ _ h => h) (Or.inr ⟨by rfl, rfl⟩) (by assumption) ?_
                try simp only [Act.put, List.setIfInBounds_toArray, List.set_cons_zero, List.set_cons_succ, List.getElem_toArray, List.getElem_cons_zero, List.getElem_cons_succ]
                refine wpAnyH_take (i := 15) (v := undef) rfl (by kernel_rfl) (by kernel_rfl) (by kernel_rfl) (fun _ _ _ h => h) (Or.inr ⟨by rfl, rfl⟩) (by assumption) ?_
                try simp only [Act.put, List.setIfInBounds_toArray, List.set_cons_zero, List.set_cons_succ, List.getElem_toArray, List.getElem_cons_zero, List.getElem_cons_succ]
                refine wpAnyH_take (i := 16) (v := undef) rfl (by kernel_rfl) (by kernel_rfl) (by kernel_rfl) (fun _ _ _ h => h) (Or.inr ⟨by rfl, rfl⟩) (by assumption) ?_
                try simp only [Act.put, List.setIfInBounds_toArray, List.set_cons_zero, List.set_cons_succ, List.getElem_toArray, List.getElem_cons_zero, List.getElem_cons_succ]
                refine wpAnyH_take (i := 17) (v := undef) rfl (by kernel_rfl) (by kernel_rfl) (by kernel_rfl) (fun _ _ _ h => h) (Or.inr ⟨by rfl, rfl⟩) (by assumption) ?_
                try simp only [Act.put, List.setIfInBounds_toArray, List.set_cons_zero, List.set_cons_succ, List.getElem_toArray, List.getElem_cons_zero, List.getElem_cons_succ]
                refine wpAnyH_take (i := 18) (v := undef) rfl (by kernel_rfl) (by kernel_rfl) (by kernel_rfl) (fun _ _ _ h => h) (Or.inr ⟨by rfl, rfl⟩) (by assumption) ?_
                try simp only [Act.put, List.setIfInBounds_toArray, List.set_cons_zero, List.set_cons_succ, List.getElem_toArray, List.getElem_cons_zero, List.getElem_cons_succ]
                refine wpAnyH_take (i := 19) (v := undef) rfl (by kernel_rfl) (by kernel_rfl) (by kernel_rfl) (fun _ _ _ h => h) (Or.inr ⟨by rfl, rfl⟩) (by assumption) ?_
                try simp only [Act.put, List.setIfInBounds_toArray, List.set_cons_zero, List.set_cons_succ, List.getElem_toArray, List.getElem_cons_zero, List.getElem_cons_succ]
                refine wpAnyH_take (i := 20) (v := undef) rfl (by kernel_rfl) (by kernel_rfl) (by kernel_rfl) (fun _ _ _ h => h) (Or.inr ⟨by rfl, rfl⟩) (by assumption) ?_
                try simp only [Act.put, List.setIfInBounds_toArray, List.set_cons_zero, List.set_cons_succ, List.getElem_toArray, List.getElem_cons_zero, List.getElem_cons_succ]
                refine wpAnyH_take (i := 21) (v := undef) rfl (by kernel_rfl) (by kernel_rfl) (by kernel_rfl) (fun _ _ _ h => h) (Or.inr ⟨by rfl, rfl⟩) (by assumption) ?_
                try simp only [Act.put, List.setIfInBounds_toArray, List.set_cons_zero, List.set_cons_succ, List.getElem_toArray, List.getElem_cons_zero, List.getElem_cons_succ]
                refine wpAnyH_take (i := 22) (v := undef) rfl (by kernel_rfl) (by kernel_rfl) (by kernel_rfl) (fun _ _ _ h => h) (Or.inr ⟨by rfl, rfl⟩) (by assumption) ?_
                try simp only [Act.put, List.setIfInBounds_toArray, List.set_cons_zero, List.set_cons_succ, List.getElem_toArray, List.getElem_cons_zero, List.getElem_cons_succ]
                refine wpAnyH_take (i := 23) (v := ?_) rfl (by kernel_rfl) (by kernel_rfl) (by kernel_rfl) (fun _ _ _ h => h) (Or.inl ⟨by rfl, ?_⟩) (by assumption) ?_
                rotate_left 1
                · (intro w hSw; (try dsimp only at hSw); (try go_split_ands); go_simp; try with_reducible rfl)
                try simp only [Act.put, List.setIfInBounds_toArray, List.set_cons_zero, List.set_cons_succ, List.getElem_toArray, List.getElem_cons_zero, List.getElem_cons_succ]
                refine wpAnyH_take (i := 24) (v := ?_) rfl (by kernel_rfl) (by kernel_rfl) (by kernel_rfl) (fun _ _ _ h => h) (Or.inl ⟨by rfl, ?_⟩) (by assumption) ?_
                rotate_left 1
                · (intro w hSw; (try dsimp only at hSw); (try go_split_ands); go_simp; try with_reducible rfl)
                try simp only [Act.put, List.setIfInBounds_toArray, List.set_cons_zero, List.set_cons_succ, List.getElem_toArray, List.getElem_cons_zero, List.getElem_cons_succ]
                refine wpAnyH_take (i := 25) (v := ?_) rfl (by kernel_rfl) (by kernel_rfl) (by kernel_rfl) (fun _ _ _ h => h) (Or.inl ⟨by rfl, ?_⟩) (by assumption) ?_
                rotate_left 1
                · (intro w hSw; (try dsimp only at hSw); (try go_split_ands); go_simp; try with_reducible rfl)
                try simp only [Act.put, List.setIfInBounds_toArray, List.set_cons_zero, List.set_cons_succ, List.getElem_toArray, List.getElem_cons_zero, List.getElem_cons_succ]
                refine wpAnyH_take (i := 26) (v := ?_) rfl (by kernel_rfl) (by kernel_rfl) (by kernel_rfl) (fun _ _ _ h => h) (Or.inl ⟨by rfl, ?_⟩) (by assumption) ?_
                rotate_left 1
                · (intro w hSw; (try dsimp only at hSw); (try go_split_ands); go_simp; try with_reducible rfl)
                try simp only [Act.put, List.setIfInBounds_toArray, List.set_cons_zero, List.set_cons_succ, List.getElem_toArray, List.getElem_cons_zero, List.getElem_cons_succ]
                refine wpAnyH_take (i := 28) (v := ?_) rfl (by kernel_rfl) (by kernel_rfl) (by kernel_rfl) (fun _ _ _ h => h) (Or.inl ⟨by rfl, ?_⟩) (by assumption) ?_
                rotate_left 1
                · (intro w hSw; (try dsimp only at hSw); (try go_split_ands); go_simp; try with_reducible rfl)
                try simp only [Act.put, List.setIfInBounds_toArray, List.set_cons_zero, List.set_cons_succ, List.getElem_toArray, List.getElem_cons_zero, List.getElem_cons_succ]
                refine wpAnyH_take (i := 29) (v := ?_) rfl (by kernel_rfl) (by kernel_rfl) (by kernel_rfl) (fun _ _ _ h => h) (Or.inl ⟨by rfl, ?_⟩) (by assumption) ?_
                rotate_left 1
                · (intro w hSw; (try dsimp only at hSw); (try go_split_ands); go_simp; try with_reducible rfl)
                try simp only [Act.put, List.setIfInBounds_toArray, List.set_cons_zero, List.set_cons_succ, List.getElem_toArray, List.getElem_cons_zero, List.getElem_cons_succ]
                refine wpAnyH_take (i := 30) (v := ?_) rfl (by kernel_rfl) (by kernel_rfl) (by kernel_rfl) (fun _ _ _ h => h) (Or.inl ⟨by rfl, ?_⟩) (by assumption) ?_
                rotate_left 1
                · (intro w hSw; (try dsimp only at hSw); (try go_split_ands); go_simp; try with_reducible rfl)
                try simp only [Act.put, List.setIfInBounds_toArray, List.set_cons_zero, List.set_cons_succ, List.getElem_toArray, List.getElem_cons_zero, List.getElem_cons_succ]
                refine wpAnyH_take (i := 31) (v := ?_) rfl (by kernel_rfl) (by kernel_rfl) (by kernel_rfl) (fun _ _ _ h => h) (Or.inl ⟨by rfl, ?_⟩) (by assumption) ?_
                rotate_left 1
                · (intro w hSw; (try dsimp only at hSw); (try go_split_ands); go_simp; try with_reducible rfl)
                try simp only [Act.put, List.setIfInBounds_toArray, List.set_cons_zero, List.set_cons_succ, List.getElem_toArray, List.getElem_cons_zero, List.getElem_cons_succ]
                refine wpAnyH_ready (rs := [27]) (by kernel_rfl) (by simp) ?_
                refine AllReadyH.cons rfl (fun K hK => ?_) AllReadyH.nil
                go_simp; go_at_call 12; refine CF.out.mono ?_; rintro e w5 ⟨rfl, b5⟩; have b6 : Below wz.heap.size wz w5 := bd.trans b5
                refine hK.out _ _ (KS.out _ b6) (fun hHeld => ?_)
                clear hK K
                try simp only [Act.put, List.setIfInBounds_toArray, List.set_cons_zero, List.set_cons_succ, List.getElem_toArray, List.getElem_cons_zero, List.getElem_cons_succ]
                refine wpAnyH_take (i := 32) (v := ?_) rfl (by kernel_rfl) (by kernel_rfl) (by kernel_rfl) (fun _ _ _ h => h) (Or.inl ⟨by rfl, ?_⟩) (by assumption) ?_
                rotate_left 1
                · (intro w hSw; (try dsimp only at hSw); (try go_split_ands); go_simp; try with_reducible rfl)
                try simp only [Act.put, List.setIfInBounds_toArray, List.set_cons_zero, List.set_cons_succ, List.getElem_toArray, List.getElem_cons_zero, List.getElem_cons_succ]
                refine wpAnyH_take (i := 33) (v := ?_) rfl (by kernel_rfl) (by kernel_rfl) (by kernel_rfl) (fun _ _ _ h => h) (Or.inl ⟨by rfl, ?_⟩) (by assumption) ?_
                rotate_left 1
                · (intro w hSw; (try dsimp only at hSw); (try go_split_ands); go_simp; try with_reducible rfl)
                try simp only [Act.put, List.setIfInBounds_toArray, List.set_cons_zero, List.set_cons_succ, List.getElem_toArray, List.getElem_cons_zero, List.getElem_cons_succ]
                refine wpAnyH_done (by kernel_rfl) ?_ _
                clear hHeld

                replace HM := Lib.hid (HM.out.below (bd.trans b5))
                clear b5 b6 CF KS bd ga
                obtain ⟨lr, hlr, CR⟩ := HM.out.ret
                replace CR := Lib.hid CR
                replace hlr := Lib.hid hlr
                have hlb : lr ≤ 20 := by have := hlr.out; omega
                have htb : tot ≤ 20 := by omega
                clear HM
                go_wp2_with fail
                refine CR.out.mono ?_
                rintro e w6 ⟨A6, c6, rfl, HP⟩
                replace HP := Lib.hid HP
                clear CR
                go_wp2_with fail
                go_roundw
                case rel => exact ⟨j + 1, next, tot + lr, by omega, by go_num, by go_num, by go_num, by omega, hlr.out, HP⟩
                case measure => simp [intOf] <;> omega
            · -- it has one
              obtain ⟨J, hJ⟩ : ∃ J, hv kk = J + 1 := ⟨hv kk - 1, by omega⟩
              have CA := Lib.hid (HM.forA hkk hJ)
              have hJ9 : J + 1 ≤ k + 1 := by have := (HM.pi.of_ kk hkk hz).1; omega
              rw [hJ] at ga
              have ga : wr.cell? ⟨g, kk, none⟩ = some (.int .i64 ((J : Int) + 1)) := ga
              have d3 : ((J : Int) + 1 == 0) = false := beq_eq_false_iff_ne.2 (by omega)
              replace hJ := Lib.hid hJ
              clear hz HM
              go_wp2_with fail
              refine (D.out _).mono ?_
              rintro e w' ⟨rfl, rfl⟩
              have hgl := World.block_lt_of_cell? wr _ ga
              clear D z0
              go_wp2_with fail
              refine CA.out.mono ?_
              rintro e wz ⟨b3, c3, rfl, R3, h8, HM⟩
              replace ga : wz.cell? ⟨g, kk, none⟩ = some (.int .i64 ((J : Int) + 1)) := by
                have := HM.arr.cell hkk
                rw [hJ.out] at this
                exact this
              have gb : wz.cell? ⟨b3, 0, none⟩ = some (.int .u8 (J : Int)) := by
                obtain ⟨b, o, e, hc⟩ := R3 (by rw [bv_length, h8]; omega)
                injection e with e; injection e with e1 e2
                subst e1 e2
                exact hc 0 _ (by rw [pid_bv (by omega)]; rfl)
              replace HM := Lib.hid HM
              clear CA R3 h8 hgl hJ
              have LE := HM.out.le
              obtain ⟨FR, hFR⟩ : ∃ FR, k + 1 - next = FR := ⟨_, rfl⟩
              have hFI : (k : Int) + 1 - (next : Int) = (FR : Int) := by omega
              have CF := Lib.hid ((HM.out.below (Still.drew wz).below).free FR hFR)
              have bd : Below wz.heap.size wz wz.drew := (Still.drew wz).below
              have hFw : IntKind.i64.wrap ((k : Int) + 1) = (k : Int) + 1 := by rw [IntKind.wrap_i64]; omega
              have hFw2 : IntKind.i64.wrap ((k : Int) + 1 - (next : Int)) = (FR : Int) := by rw [IntKind.wrap_i64]; omega
              have hFb : FR ≤ 9 := by omega
              have hFRw : IntKind.i64.wrap (FR : Int) = (FR : Int) := by rw [IntKind.wrap_i64]; omega
              clear hFR

              have KS : Hid (∀ W, Below wz.heap.size wz W → W.cell? ⟨g, kk, none⟩ = some (.int .i64 ((J : Int) + 1)) ∧ W.cell? ⟨b3, 0, none⟩ = some (.int .u8 (J : Int))) := Lib.hid (fun W hb => ⟨(hb.cell (World.block_lt_of_cell? wz _ ga)).trans ga, (hb.cell (World.block_lt_of_cell? wz _ gb)).trans gb⟩)
              have hJw : IntKind.i64.wrap (J : Int) = (J : Int) := by rw [IntKind.wrap_i64]; omega
              have hJw2 : IntKind.i64.wrap ((J : Int) + 1 - 1) = (J : Int) := by rw [IntKind.wrap_i64]; omega
              have dJ : decide ((0 : Int) < (J : Int) + 1) = true := decide_eq_true (by omega)
              have dJn : decide (0 < J + 1) = true := decide_eq_true (by omega)
              go_upto_region 22 with fail
              refine wp_region_held_drew (S := fun W => W.cell? ⟨g, kk, none⟩ = some (.int .i64 ((J : Int) + 1)) ∧ W.cell? ⟨b3, 0, none⟩ = some (.int .u8 (J : Int))) (by kernel_rfl) (KS.out _ bd) (fun hHeld => ?_)
              refine wpAnyH_take (i := 0) (v := ?_) rfl (by kernel_rfl) (by kernel_rfl) (by kernel_rfl) (fun _ _ _ h => h) (Or.inl ⟨by rfl, ?_⟩) (by assumption) ?_
              rotate_left 1
              · (intro w hSw; (try dsimp only at hSw); (try go_split_ands); go_simp; try with_reducible rfl)
              try simp only [Act.put, List.setIfInBounds_toArray, List.set_cons_zero, List.set_cons_succ, List.getElem_toArray, List.getElem_cons_zero, List.getElem_cons_succ]
              refine wpAnyH_take (i := 1) (v := ?_) rfl (by kernel_rfl) (by kernel_rfl) (by kernel_rfl) (fun _ _ _ h => h) (Or.inl ⟨by rfl, ?_⟩) (by assumption) ?_
              rotate_left 1
              · (intro w hSw; (try dsimp only at hSw); (try go_split_ands); go_simp; try with_reducible rfl)
              try simp only [Act.put, List.setIfInBounds_toArray, List.set_cons_zero, List.set_cons_succ, List.getElem_toArray, List.getElem_cons_zero, List.getElem_cons_succ]
              refine wpAnyH_take (i := 2) (v := ?_) rfl (by kernel_rfl) (by kernel_rfl) (by kernel_rfl) (fun _ _ _ h => h) (Or.inl ⟨by rfl, ?_⟩) (by assumption) ?_
              rotate_left 1
              · (intro w hSw; (try dsimp only at hSw); (try go_split_ands); go_simp; try with_reducible rfl)
              try simp only [Act.put, List.setIfInBounds_toArray, List.set_cons_zero, List.set_cons_succ, List.getElem_toArray, List.getElem_cons_zero, List.getElem_cons_succ]
              refine wpAnyH_take (i := 3) (v := ?_) rfl (by kernel_rfl) (by kernel_rfl) (by kernel_rfl) (fun _ _ _ h => h) (Or.inl ⟨by rfl, ?_⟩) (by assumption) ?_
              rotate_left 1
              · (intro w hSw; (try dsimp only at hSw); (try go_split_ands); go_simp; try with_reducible rfl)
              try simp only [Act.put, List.setIfInBounds_toArray, List.set_cons_zero, List.set_cons_succ, List.getElem_toArray, List.getElem_cons_zero, List.getElem_cons_succ]
              refine wpAnyH_take (i := 4) (v := ?_) rfl (by kernel_rfl) (by kernel_rfl) (by kernel_rfl) (fun _ _ _ h => h) (Or.inl ⟨by rfl, ?_⟩) (by assumption) ?_
              rotate_left 1
              · (intro w hSw; (try dsimp only at hSw); (try go_split_ands); go_simp; try with_reducible rfl)
              try simp only [Act.put, List.setIfInBounds_toArray, List.set_cons_zero, List.set_cons_succ, List.getElem_toArray, List.getElem_cons_zero, List.getElem_cons_succ]
              refine wpAnyH_take (i := 5) (v := ?_) rfl (by kernel_rfl) (by kernel_rfl) (by kernel_rfl) (fun _ _ _ h => h) (Or.inl ⟨by rfl, ?_⟩) (by assumption) ?_
              rotate_left 1
              · (intro w hSw; (try dsimp only at hSw); (try go_split_ands); go_simp; try with_reducible rfl)
              try simp only [Act.put, List.setIfInBounds_toArray, List.set_cons_zero, List.set_cons_succ, List.getElem_toArray, List.getElem_cons_zero, List.getElem_cons_succ]
              refine wpAnyH_take (i := 6) (v := ?_) rfl (by kernel_rfl) (by kernel_rfl) (by kernel_rfl) (fun _ _ _ h => h) (Or.inl ⟨by rfl, ?_⟩) (by assumption) ?_
              rotate_left 1
              · (intro w hSw; (try dsimp only at hSw); (try go_split_ands); go_simp; try with_reducible rfl)
              try simp only [Act.put, List.setIfInBounds_toArray, List.set_cons_zero, List.set_cons_succ, List.getElem_toArray, List.getElem_cons_zero, List.getElem_cons_succ]
              refine wpAnyH_take (i := 7) (v := ?_) rfl (by kernel_rfl) (by kernel_rfl) (by kernel_rfl) (fun _ _ _ h => h) (Or.inl ⟨by rfl, ?_⟩) (by assumption) ?_
              rotate_left 1
              · (intro w hSw; (try dsimp only at hSw); (try go_split_ands); go_simp; try with_reducible rfl)
              try simp only [Act.put, List.setIfInBounds_toArray, List.set_cons_zero, List.set_cons_succ, List.getElem_toArray, List.getElem_cons_zero, List.getElem_cons_succ]
              refine wpAnyH_take (i := 8) (v := ?_) rfl (by kernel_rfl) (by kernel_rfl) (by kernel_rfl) (fun _ _ _ h => h) (Or.inl ⟨by rfl, ?_⟩) (by assumption) ?_
              rotate_left 1
              · (intro w hSw; (try dsimp only at hSw); (try go_split_ands); go_simp; try with_reducible rfl)
              try simp only [Act.put, List.setIfInBounds_toArray, List.set_cons_zero, List.set_cons_succ, List.getElem_toArray, List.getElem_cons_zero, List.getElem_cons_succ]
              refine wpAnyH_take (i := 9) (v := ?_) rfl (by kernel_rfl) (by kernel_rfl) (by kernel_rfl) (fun _ _ _ h => h) (Or.inl ⟨by rfl, ?_⟩) (by assumption) ?_
              rotate_left 1
              · (intro w hSw; (try dsimp only at hSw); (try go_split_ands); go_simp; try with_reducible rfl)
              try simp only [Act.put, List.setIfInBounds_toArray, List.set_cons_zero, List.set_cons_succ, List.getElem_toArray, List.getElem_cons_zero, List.getElem_cons_succ]
              refine wpAnyH_take (i := 10) (v := ?_) rfl (by kernel_rfl) (by kernel_rfl) (by kernel_rfl) (fun _ _ _ h => h) (Or.inl ⟨by rfl, ?_⟩) (by assumption) ?_
              rotate_left 1
              · (intro w hSw; (try dsimp only at hSw); (try go_split_ands); go_simp; try with_reducible rfl)
              try simp only [Act.put, List.setIfInBounds_toArray, List.set_cons_zero, List.set_cons_succ, List.getElem_toArray, List.getElem_cons_zero, List.getElem_cons_succ]
              refine wpAnyH_take (i := 11) (v := ?_) rfl (by kernel_rfl) (by kernel_rfl) (by kernel_rfl) (fun _ _ _ h => h) (Or.inl ⟨by rfl, ?_⟩) (by assumption) ?_
              rotate_left 1
              · (intro w hSw; (try dsimp only at hSw); (try go_split_ands); go_simp; try with_reducible rfl)
              try simp only [Act.put, List.setIfInBounds_toArray, List.set_cons_zero, List.set_cons_succ, List.getElem_toArray, List.getElem_cons_zero, List.getElem_cons_succ]
              refine wpAnyH_take (i := 12) (v := ?_) rfl (by kernel_rfl) (by kernel_rfl) (by kernel_rfl) (fun _ _ _ h => h) (Or.inl ⟨by rfl, ?_⟩) (by assumption) ?_
              rotate_left 1
              · (intro w hSw; (try dsimp only at hSw); (try go_split_ands); go_simp; try with_reducible rfl)
              try simp only [Act.put, List.setIfInBounds_toArray, List.set_cons_zero, List.set_cons_succ, List.getElem_toArray, List.getElem_cons_zero, List.getElem_cons_succ]
              refine wpAnyH_take (i := 13) (v := ?_) rfl (by kernel_rfl) (by kernel_rfl) (by kernel_rfl) (fun _ _ _ h => h) (Or.inl ⟨by rfl, ?_⟩) (by assumption) ?_
              rotate_left 1
              · (intro w hSw; (try dsimp only at hSw); (try go_split_ands); go_simp; try with_reducible rfl)
              try simp only [Act.put, List.setIfInBounds_toArray, List.set_cons_zero, List.set_cons_succ, List.getElem_toArray, List.getElem_cons_zero, List.getElem_cons_succ]
              refine wpAnyH_take (i := 14) (v := ?_) rfl (by kernel_rfl) (by kernel_rfl) (by kernel_rfl) (fun _ _ _ h => h) (Or.inl ⟨by rfl, ?_⟩) (by assumption) ?_
              rotate_left 1
              · (intro w hSw; (try dsimp only at hSw); (try go_split_ands); go_simp; try with_reducible rfl)
              try simp only [Act.put, List.setIfInBounds_toArray, List.set_cons_zero, List.set_cons_succ, List.getElem_toArray, List.getElem_cons_zero, List.getElem_cons_succ]
              refine wpAnyH_take (i := 15) (v := ?_) rfl (by kernel_rfl) (by kernel_rfl) (by kernel_rfl) (fun _ _ _ h => h) (Or.inl ⟨by rfl, ?_⟩) (by assumption) ?_
              rotate_left 1
              · (intro w hSw; (try dsimp only at hSw); (try go_split_ands); go_simp; try with_reducible rfl)
              try simp only [Act.put, List.setIfInBounds_toArray, List.set_cons_zero, List.set_cons_succ, List.getElem_toArray, List.getElem_cons_zero, List.getElem_cons_succ]
              refine wpAnyH_take (i := 16) (v := ?_) rfl (by kernel_rfl) (by kernel_rfl) (by kernel_rfl) (fun _ _ _ h => h) (Or.inl ⟨by rfl, ?_⟩) (by assumption) ?_
              rotate_left 1
              · (intro w hSw; (try dsimp only at hSw); (try go_split_ands); go_simp; try with_reducible rfl)
              try simp only [Act.put, List.setIfInBounds_toArray, List.set_cons_zero, List.set_cons_succ, List.getElem_toArray, List.getElem_cons_zero, List.getElem_cons_succ]
              refine wpAnyH_take (i := 17) (v := ?_) rfl (by kernel_rfl) (by kernel_rfl) (by kernel_rfl) (fun _ _ _ h => h) (Or.inl ⟨by rfl, ?_⟩) (by assumption) ?_
              rotate_left 1
              · (intro w hSw; (try dsimp only at hSw); (try go_split_ands); go_simp; try with_reducible rfl)
              try simp only [Act.put, List.setIfInBounds_toArray, List.set_cons_zero, List.set_cons_succ, List.getElem_toArray, List.getElem_cons_zero, List.getElem_cons_succ]
              refine wpAnyH_take (i := 18) (v := ?_) rfl (by kernel_rfl) (by kernel_rfl) (by kernel_rfl) (fun _ _ _ h => h) (Or.inl ⟨by rfl, ?_⟩) (by assumption) ?_
              rotate_left 1
              · (intro w hSw; (try dsimp only at hSw); (try go_split_ands); go_simp; try with_reducible rfl)
              try simp only [Act.put, List.setIfInBounds_toArray, List.set_cons_zero, List.set_cons_succ, List.getElem_toArray, List.getElem_cons_zero, List.getElem_cons_succ]
              refine wpAnyH_take (i := 19) (v := ?_) rfl (by kernel_rfl) (by kernel_rfl) (by kernel_rfl) (fun _ _ _ h => h) (Or.inl ⟨by rfl, ?_⟩) (by assumption) ?_
              rotate_left 1
              · (intro w hSw; (try dsimp only at hSw); (try go_split_ands); go_simp; try with_reducible rfl)
              try simp only [Act.put, List.setIfInBounds_toArray, List.set_cons_zero, List.set_cons_succ, List.getElem_toArray, List.getElem_cons_zero, List.getElem_cons_succ]
              refine wpAnyH_take (i := 20) (v := ?_) rfl (by kernel_rfl) (by kernel_rfl) (by kernel_rfl) (fun _ _ _ h => h) (Or.inl ⟨by rfl, ?_⟩) (by assumption) ?_
              rotate_left 1
              · (intro w hSw; (try dsimp only at hSw); (try go_split_ands); go_simp; try with_reducible rfl)
              try simp only [Act.put, List.setIfInBounds_toArray, List.set_cons_zero, List.set_cons_succ, List.getElem_toArray, List.getElem_cons_zero, List.getElem_cons_succ]
              refine wpAnyH_take (i := 21) (v := ?_) rfl (by kernel_rfl) (by kernel_rfl) (by kernel_rfl) (fun _ _ _ h => h) (Or.inl ⟨by rfl, ?_⟩) (by assumption) ?_
              rotate_left 1
              · (intro w hSw; (try dsimp only at hSw); (try go_split_ands); go_simp; try with_reducible rfl)
              try simp only [Act.put, List.setIfInBounds_toArray, List.set_cons_zero, List.set_cons_succ, List.getElem_toArray, List.getElem_cons_zero, List.getElem_cons_succ]
              refine wpAnyH_take (i := 22) (v := ?_) rfl (by kernel_rfl) (by kernel_rfl) (by kernel_rfl) (fun _ _ _ h => h) (Or.inl ⟨by rfl, ?_⟩) (by assumption) ?_
              rotate_left 1
              · (intro w hSw; (try dsimp only at hSw); (try go_split_ands); go_simp; try with_reducible rfl)
              try simp only [Act.put, List.setIfInBounds_toArray, List.set_cons_zero, List.set_cons_succ, List.getElem_toArray, List.getElem_cons_zero, List.getElem_cons_succ]
              refine wpAnyH_take (i := 23) (v := ?_) rfl (by kernel_rfl) (by kernel_rfl) (by kernel_rfl) (fun _ _ _ h => h) (Or.inl ⟨by rfl, ?_⟩) (by assumption) ?_
              rotate_left 1
              · (intro w hSw; (try dsimp only at hSw); (try go_split_ands); go_simp; try with_reducible rfl)
              try simp only [Act.put, List.setIfInBounds_toArray, List.set_cons_zero, List.set_cons_succ, List.getElem_toArray, List.getElem_cons_zero, List.getElem_cons_succ]
              refine wpAnyH_take (i := 24) (v := ?_) rfl (by kernel_rfl) (by kernel_rfl) (by kernel_rfl) (fun _ _ _ h => h) (Or.inl ⟨by rfl, ?_⟩) (by assumption) ?_
              rotate_left 1
              · (intro w hSw; (try dsimp only at hSw); (try go_split_ands); go_simp; try with_reducible rfl)
              try simp only [Act.put, List.setIfInBounds_toArray, List.set_cons_zero, List.set_cons_succ, List.getElem_toArray, List.getElem_cons_zero, List.getElem_cons_succ]
              refine wpAnyH_take (i := 25) (v := ?_) rfl (by kernel_rfl) (by kernel_rfl) (by kernel_rfl) (fun _ _ _ h => h) (Or.inl ⟨by rfl, ?_⟩) (by assumption) ?_
              rotate_left 1
              · (intro w hSw; (try dsimp only at hSw); (try go_split_ands); go_simp; try with_reducible rfl)
              try simp only [Act.put, List.setIfInBounds_toArray, List.set_cons_zero, List.set_cons_succ, List.getElem_toArray, List.getElem_cons_zero, List.getElem_cons_succ]
              refine wpAnyH_take (i := 26) (v := ?_) rfl (by kernel_rfl) (by kernel_rfl) (by kernel_rfl) (fun _ _ _ h => h) (Or.inl ⟨by rfl, ?_⟩) (by assumption) ?_
              rotate_left 1
              · (intro w hSw; (try dsimp only at hSw); (try go_split_ands); go_simp; try with_reducible rfl)
              try simp only [Act.put, List.setIfInBounds_toArray, List.set_cons_zero, List.set_cons_succ, List.getElem_toArray, List.getElem_cons_zero, List.getElem_cons_succ]
              refine wpAnyH_take (i := 28) (v := ?_) rfl (by kernel_rfl) (by kernel_rfl) (by kernel_rfl) (fun _ _ _ h => h) (Or.inl ⟨by rfl, ?_⟩) (by assumption) ?_
              rotate_left 1
              · (intro w hSw; (try dsimp only at hSw); (try go_split_ands); go_simp; try with_reducible rfl)
              try simp only [Act.put, List.setIfInBounds_toArray, List.set_cons_zero, List.set_cons_succ, List.getElem_toArray, List.getElem_cons_zero, List.getElem_cons_succ]
              refine wpAnyH_take (i := 29) (v := ?_) rfl (by kernel_rfl) (by kernel_rfl) (by kernel_rfl) (fun _ _ _ h => h) (Or.inl ⟨by rfl, ?_⟩) (by assumption) ?_
              rotate_left 1
              · (intro w hSw; (try dsimp only at hSw); (try go_split_ands); go_simp; try with_reducible rfl)
              try simp only [Act.put, List.setIfInBounds_toArray, List.set_cons_zero, List.set_cons_succ, List.getElem_toArray, List.getElem_cons_zero, List.getElem_cons_succ]
              refine wpAnyH_take (i := 30) (v := ?_) rfl (by kernel_rfl) (by kernel_rfl) (by kernel_rfl) (fun _ _ _ h => h) (Or.inl ⟨by rfl, ?_⟩) (by assumption) ?_
              rotate_left 1
              · (intro w hSw; (try dsimp only at hSw); (try go_split_ands); go_simp; try with_reducible rfl)
              try simp only [Act.put, List.setIfInBounds_toArray, List.set_cons_zero, List.set_cons_succ, List.getElem_toArray, List.getElem_cons_zero, List.getElem_cons_succ]
              refine wpAnyH_take (i := 31) (v := ?_) rfl (by kernel_rfl) (by kernel_rfl) (by kernel_rfl) (fun _ _ _ h => h) (Or.inl ⟨by rfl, ?_⟩) (by assumption) ?_
              rotate_left 1
              · (intro w hSw; (try dsimp only at hSw); (try go_split_ands); go_simp; try with_reducible rfl)
              try simp only [Act.put, List.setIfInBounds_toArray, List.set_cons_zero, List.set_cons_succ, List.getElem_toArray, List.getElem_cons_zero, List.getElem_cons_succ]
              refine wpAnyH_ready (rs := [27]) (by kernel_rfl) (by simp) ?_
              refine AllReadyH.cons rfl (fun K hK => ?_) AllReadyH.nil
              go_simp; go_at_call 12; refine CF.out.mono ?_; rintro e w5 ⟨rfl, b5⟩; have b6 : Below wz.heap.size wz w5 := bd.trans b5
              refine hK.out _ _ (KS.out _ b6) (fun hHeld => ?_)
              clear hK K
              try simp only [Act.put, List.setIfInBounds_toArray, List.set_cons_zero, List.set_cons_succ, List.getElem_toArray, List.getElem_cons_zero, List.getElem_cons_succ]
              refine wpAnyH_take (i := 32) (v := ?_) rfl (by kernel_rfl) (by kernel_rfl) (by kernel_rfl) (fun _ _ _ h => h) (Or.inl ⟨by rfl, ?_⟩) (by assumption) ?_
              rotate_left 1
              · (intro w hSw; (try dsimp only at hSw); (try go_split_ands); go_simp; try with_reducible rfl)
              try simp only [Act.put, List.setIfInBounds_toArray, List.set_cons_zero, List.set_cons_succ, List.getElem_toArray, List.getElem_cons_zero, List.getElem_cons_succ]
              refine wpAnyH_take (i := 33) (v := ?_) rfl (by kernel_rfl) (by kernel_rfl) (by kernel_rfl) (fun _ _ _ h => h) (Or.inl ⟨by rfl, ?_⟩) (by assumption) ?_
              rotate_left 1
              · (intro w hSw; (try dsimp only at hSw); (try go_split_ands); go_simp; try with_reducible rfl)
              try simp only [Act.put, List.setIfInBounds_toArray, List.set_cons_zero, List.set_cons_succ, List.getElem_toArray, List.getElem_cons_zero, List.getElem_cons_succ]
              refine wpAnyH_done (by kernel_rfl) ?_ _
              clear hHeld

              replace HM := Lib.hid (HM.out.below (bd.trans b5))
              clear b5 b6 CF KS bd ga gb
              obtain ⟨lr, hlr, CR⟩ := HM.out.ret
              replace CR := Lib.hid CR
              replace hlr := Lib.hid hlr
              have hlb : lr ≤ 20 := by have := hlr.out; omega
              have htb : tot ≤ 20 := by omega
              clear HM
              go_wp2_with fail
              refine CR.out.mono ?_
              rintro e w6 ⟨A6, c6, rfl, HP⟩
              replace HP := Lib.hid HP
              clear CR
              go_wp2_with fail
              go_roundw
              case rel => exact ⟨j + 1, next, tot + lr, by omega, by go_num, by go_num, by go_num, by omega, hlr.out, HP⟩
              case measure => simp [intOf] <;> omega
          · have hjj : Hid (tot ≤ next) := Lib.hid htt
            have d4 : decide ((tot : Int) ≤ (next : Int)) = true := decide_eq_true (by omega)
            have d4n : decide (tot ≤ next) = true := decide_eq_true htt
            clear hj
            go_wp2_with fail
            refine HP.out.again.mono ?_
            rintro e w6 ⟨A6, c6, rfl, b6⟩
            replace b6 := Lib.hid b6
            go_wp2_with fail
            refine (awake_any w6).mono ?_
            rintro e w7 ⟨rfl, b7⟩
            replace b7 := Lib.hid b7
            go_wp2_with fail
            go_ret
            exact ⟨rfl, b6.out.trans (b7.out.mono b6.out.size)⟩
theorem paths_any (l : List Int) (m0 : Int) (A : Option Addr) (cn : Nat) (w : World) (hr : Rd w A (l.map (Value.int .i64))) (hl : l.length ≤ 9223372036854775807) : Calls Try.prog 6 #[.slice A l.length cn, .int .i64 m0] w fun e w' => e = .returned (.bool true) ∧ Below w.heap.size w w' := by
  obtain ⟨m, hm, D1⟩ := low_ex m0 9 (by omega) (by omega)
  exact paths_in l l.length cn A m0 m w rfl hr hl hm (Lib.hid D1)
end Go.Proofs.Ytgmanhbfdjlhbaa
