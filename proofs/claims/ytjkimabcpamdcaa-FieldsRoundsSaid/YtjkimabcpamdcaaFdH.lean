/- fields: Get. -/
import Derived.Test.YtjkimabcpamdcaaFdG
namespace Go.Proofs.Ytjkimabcpamdcaa
open Go.RowKit

def fgl : Nat → List UInt8 → List Fd → List Fd × Int
  | _, [], acc => (acc, 0)
  | 0, _ :: _, acc => (acc, 0)
  | f + 1, x :: r, acc => if acc.length = 16 then ([], 4) else if (pln (x :: r)).2.1 ≠ 0 then ([], (pln (x :: r)).2.1) else fgl f (pln (x :: r)).1 (acc ++ [(pln (x :: r)).2.2])
def fget (l : List UInt8) : List Fd × Int :=
  if l.length < 2 then ([], 3) else if l.getD 0 0 ≠ 0 ∨ l.getD 1 0 ≠ 0 then ([], 5) else fgl 17 (l.drop 2) []
def RetG (w : World) (x : List Fd × Int) (e : Ending) (w' : World) : Prop :=
  ∃ A c, e = .returned (.tuple #[.slice A x.1.length c, .int .i64 x.2]) ∧ w'.ownsRow w.heap.size 24 2 (.slice A x.1.length c) x.1.length (fdv x.1) ∧ Below w.heap.size w w'
theorem fgl_nil (f : Nat) (acc : List Fd) : fgl f [] acc = (acc, 0) := by cases f <;> rfl
theorem fgl_cons (f : Nat) (x : UInt8) (r : List UInt8) (acc : List Fd) : fgl (f + 1) (x :: r) acc = if acc.length = 16 then ([], 4) else if (pln (x :: r)).2.1 ≠ 0 then ([], (pln (x :: r)).2.1) else fgl f (pln (x :: r)).1 (acc ++ [(pln (x :: r)).2.2]) := rfl
def sliceLen (v : Value) : Nat := match v with | .slice _ m _ => m | _ => 0
theorem bel_fp {B p : Nat} {w0 w w' : World} (hb : Below B w0 w) (hB : B ≤ w.heap.size) (hp : B ≤ p) (F : Fr (fun k => k = p) w w') : Below B w0 w' :=
  Fr.under hb hB F (fun k hk _ => by omega)

set_option maxRecDepth 100000 in
set_option maxHeartbeats 8000000 in
theorem fget_any (l : List UInt8) (A : Option Addr) (c n : Nat) (w : World) (hn : l.length = n) (hr : Rd w A (bv l)) (hc : n ≤ c) (hcc : c ≤ 9223372036854775807) (hl : n ≤ 1000000) :
    Calls Try.prog 9 #[.slice A n c] w (RetG w (fget l)) := by
  rcases l with _ | ⟨x, _ | ⟨y, r⟩⟩
  · have hn0 : n = 0 := hn.symm
    subst hn0
    go_enter Try.func9, Try.ntmps9
    go_wp2_with fail
    go_ret2
    exact ⟨none, 0, rfl, World.ownsRow_nil _ _ _ _, Below.refl _ _⟩
  · have hn0 : n = 1 := hn.symm
    subst hn0
    go_enter Try.func9, Try.ntmps9
    go_wp2_with fail
    go_ret2
    exact ⟨none, 0, rfl, World.ownsRow_nil _ _ _ _, Below.refl _ _⟩
  · simp only [List.length_cons] at hn
    obtain ⟨b, off, rfl, h0⟩ := hr.at_ (k := 0) (by simp)
    obtain ⟨b', off', e1, h1⟩ := hr.at_ (k := 1) (by simp)
    injection e1 with e1
    injection e1 with e1 e2
    subst e1 e2
    simp only [bv, List.map_cons, List.getElem_cons_zero, List.getElem_cons_succ, Nat.add_zero] at h0 h1
    have hblt := World.block_lt_of_cell? w _ h0
    simp only at hblt
    have hn2 : 2 ≤ n := by omega
    have d0 : decide (n < 2) = false := decide_eq_false (by omega)
    have d0' : decide ((n : Int) < 2) = false := decide_eq_false (by omega)
    have hI0 : (0 : Int) < (n : Int) := by omega
    have hI1 : (1 : Int) < (n : Int) := by omega
    by_cases hz : x = 0 ∧ y = 0
    · obtain ⟨rfl, rfl⟩ := hz
      have hg : Hid (fget (0 :: 0 :: r) = fgl 17 r []) := Lib.hid (by unfold fget; rw [if_neg (by simp), if_neg (by simp)]; rfl)
      obtain ⟨X, hX, hXc⟩ := cut_l (P := Try.prog) Try.underlying26 infoB (some ⟨b, off, none⟩) n c 2 hn2 hc
      obtain ⟨n2, hn2e⟩ : ∃ n2, n - 2 = n2 := ⟨_, rfl⟩
      obtain ⟨c2, hc2e⟩ : ∃ c2, c - 2 = c2 := ⟨_, rfl⟩
      rw [hn2e, hc2e] at hX
      replace hX : ∀ w : World, (Instr.sliceAt 26 (.slice (some ⟨b, off, none⟩) n c) (some (.int .i64 2)) none none).run Try.prog w = .ok (.slice X n2 c2) w := hX
      have hRd : ∀ o, Rdr (w.alloc (.cells #[.slice X n2 c2, .int .i64 0] 47)) w.heap.size X n2 c2 r 0 ∧ o = () := fun o => by
        refine ⟨⟨HasRow.new w _ _, ?_, by omega, by omega, by omega, fun a ha => ?_, fun a ha => ?_, by omega⟩, rfl⟩
        · have := hXc.bytes' hr (by simp; omega) hc
          exact this.alloc _
        · obtain ⟨a0, q1, q2⟩ := hXc.blk a ha
          injection q1 with q1
          subst q1
          simp only at q2
          omega
        · obtain ⟨a0, q1, q2⟩ := hXc.blk a ha
          injection q1 with q1
          subst q1
          simp only at q2
          rw [World.size_alloc]; omega
      have R0 := Lib.hid (hRd ()).1
      have hXlt : Hid (∀ a, X = some a → a.block < w.heap.size) := Lib.hid (fun a ha => by
        obtain ⟨a0, q1, q2⟩ := hXc.blk a ha
        injection q1 with q1
        subst q1
        simp only at q2
        omega)
      have B0 := Lib.hid ((Below.refl _ w).alloc (Nat.le_refl _) (.cells #[.slice X n2 c2, .int .i64 0] 47))
      replace hn2e := Lib.hid hn2e
      replace hc2e := Lib.hid hc2e
      clear hRd hXc hr
      go_enter Try.func9, Try.ntmps9
      go_wp2_with fail
      obtain ⟨p, hp⟩ : ∃ p, w.heap.size = p := ⟨_, rfl⟩
      rw [hp] at R0 B0 hXlt ⊢
      clear h0 h1 d0 d0' hI0 hI1 hX hblt
      go_loopw [5] (fun v wr => ∃ (acc : List Fd) (k c4 : Nat) (A4 : Option Addr) (l1 : List UInt8), acc.length = k ∧ k ≤ 16 ∧ v = .slice A4 k c4 ∧ Hid (RdrB p wr p l1 0 ∧ fgl (17 - k) l1 acc = fgl 17 r [] ∧ wr.ownsRow p 24 2 (.slice A4 k c4) k (fdv acc) ∧ Below p w wr ∧ p < wr.heap.size)) (fun v _ => 17 - sliceLen v)
      case atStart => exact ⟨[], 0, 0, none, r, rfl, by omega, rfl, Lib.hid ⟨⟨_, _, _, R0.out, hXlt.out⟩, rfl, World.ownsRow_nil _ _ _ _, B0.out, by rw [World.size_alloc]; omega⟩⟩
      case round =>
        clear R0 B0 hXlt
        obtain ⟨acc, k, c4, A4, l1, hk, hk16, rfl, HK⟩ := hrel
        obtain ⟨⟨A1, n1, c1, H1, L1⟩, hfin, ho, hb, hplt⟩ := HK.out
        clear HK
        have x0 := H1.row.cell 0 _ rfl
        have hlen := H1.len
        rcases l1 with _ | ⟨z, r1⟩
        · have hn10 : n1 = 0 := hlen.symm
          subst hn10
          rw [fgl_nil] at hfin
          have hfin2 : Hid (fget (0 :: 0 :: r) = (acc, 0)) := Lib.hid (by rw [hg.out, ← hfin])
          replace ho := Lib.hid ho
          replace hb := Lib.hid hb
          replace hk := Lib.hid hk
          replace hp := Lib.hid hp
          clear H1 L1 hfin hlen
          go_wp2_with fail
          go_ret2
          rw [hfin2.out]
          refine ⟨A4, c4, by rw [show acc.length = k from hk.out]; rfl, ?_, by rw [hp.out]; exact hb.out⟩
          rw [hp.out, show acc.length = k from hk.out]; exact ho.out
        · simp only [List.length_cons] at hlen
          have hn1 : 0 < n1 := by omega
          have hn1I : (0 : Int) < (n1 : Int) := by omega
          obtain ⟨f, hf⟩ : ∃ f, 17 - k = f + 1 := ⟨16 - k, by omega⟩
          rw [hf, fgl_cons, hk] at hfin
          by_cases hk1 : k = 16
          · rw [if_pos hk1] at hfin
            have hfin2 : Hid (fget (0 :: 0 :: r) = ([], 4)) := Lib.hid (by rw [hg.out, ← hfin])
            have d1 : ((k : Int) == 16) = true := by rw [beq_iff_eq]; omega
            replace hb := Lib.hid hb
            replace hp := Lib.hid hp
            replace hk1 := Lib.hid hk1
            clear H1 L1 hfin ho hf
            go_wp2_with fail
            go_ret2
            rw [hfin2.out]
            exact ⟨none, 0, rfl, World.ownsRow_nil _ _ _ _, by rw [hp.out]; exact hb.out⟩
          · rw [if_neg hk1] at hfin
            have d1 : ((k : Int) == 16) = false := by rw [beq_eq_false_iff_ne]; omega
            obtain ⟨⟨l2, e2, fa, fb⟩, hq⟩ : ∃ q, pln (z :: r1) = q := ⟨_, rfl⟩
            rw [hq] at hfin
            simp only at hfin
            have hap : Hid (∀ q, (Value.slice A4 k c4).ownBlock = some q → ¬ q = p) := Lib.hid (fun q hq e => by
              cases A4 with
              | none => cases hq
              | some a4 =>
                injection hq with hq
                rcases ownS_cases ho with ⟨h9, _⟩ | ⟨g9, h9, _⟩
                · cases h9
                · injection h9 with h9
                  subst h9
                  have := own_typed ho H1.row rfl
                  exact this (e.symm.trans hq.symm))
            have LN := Lib.hid (line2_any H1 p L1 l2 e2 fa fb hq)
            replace hq := Lib.hid hq
            replace ho := Lib.hid ho
            replace hb := Lib.hid hb
            replace hp := Lib.hid hp
            clear H1 L1
            by_cases he : e2 = 0
            · subst he
              rw [if_neg (by simp)] at hfin
              replace hfin := Lib.hid hfin
              replace hf := Lib.hid hf
              go_wp2_with fail
              refine LN.out.mono ?_
              rintro en w2 ⟨rfl, ⟨A2, n3, c3, H2, L2⟩, F2⟩
              have o2 := Lib.hid (own_fr ho.out F2 hap.out)
              have B2 := Lib.hid (bel_fp hb.out (Nat.le_of_lt hplt) (Nat.le_refl _) F2)
              have e1 := fun o => Lib.cell?_alloc_some o (H2.row.cell 1 _ rfl)
              have hp2 := H2.row.lt
              have HF : Hid (∀ A6 c6 w6 oa ob, w6.ownsRow p 24 2 (.slice A6 (k + 1) c6) (k + 1) (fdv acc ++ [.string fa, .string fb]) → ((w2.alloc oa).alloc ob).grownBy w6 (Value.slice A4 k c4).ownBlock → RdrB p w6 p l2 0 ∧ w6.ownsRow p 24 2 (.slice A6 (k + 1) c6) (k + 1) (fdv (acc ++ [⟨fa, fb⟩])) ∧ Below p w w6 ∧ p < w6.heap.size) := Lib.hid (fun A6 c6 w6 oa ob h6 g6 => by
                have F6 : Fr (fun q => (Value.slice A4 k c4).ownBlock = some q) w2 w6 := (((Fr.refl _ w2).alloc oa).alloc ob).grown g6 (fun _ hq _ => hq)
                refine ⟨⟨A2, n3, c3, H2.fr F6 (fun e => hap.out p e rfl) (fun a ha e => ?_), L2⟩, by rw [fdv_append]; exact h6, Fr.under B2.out (by omega) F6 (fun q hq _ => (o2.out.lt q hq).1), by have := F6.size; omega⟩
                have q1 := L2 a ha
                have q2 := (o2.out.lt a.block e).1
                omega)
              go_wp2_with (at_builtin; refine wpList_appS rfl _ _ 22 rfl p 24 _ 2 32 infoF Try.underlying22 rfl (by decide) (.slice A4 k c4) k (fdv acc) rfl ((o2.out.alloc _).alloc _) ⟨w2.heap.size + 1, 0, none⟩ 1 1 [.string fa, .string fb] rfl rfl (Rd.fresh_to (by rw [World.size_alloc]) [.string fa, .string fb] _ _).cells (by intro u hu; simp at hu; rcases hu with rfl | rfl <;> rfl) (by unfold maxLen; omega) (by omega) (by simp only [World.size_alloc]; omega) ?_; intro A6 c6 w6 ho6 hg6 hat6; have H6 := HF.out A6 c6 w6 _ _ ho6 hg6; clear ho6 hg6 hat6)
              go_roundw
              case rel => exact ⟨acc ++ [⟨fa, fb⟩], k + 1, c6, A6, l2, by rw [List.length_append, hk]; rfl, by omega, rfl, Lib.hid ⟨H6.1, by rw [← hfin.out]; congr 1; have := hf.out; omega, H6.2.1, H6.2.2.1, H6.2.2.2⟩⟩
              case measure => simp only [sliceLen]; omega
            · rw [if_pos he] at hfin
              have d2 : (e2 != 0) = true := by rw [bne_iff_ne]; exact he
              have hfin2 : Hid (fget (0 :: 0 :: r) = ([], e2)) := Lib.hid (by rw [hg.out, ← hfin])
              replace hfin := Lib.hid hfin
              replace hf := Lib.hid hf
              go_wp2_with fail
              refine LN.out.mono ?_
              rintro en w2 ⟨rfl, ⟨A2, n3, c3, H2, L2⟩, F2⟩
              have B2 := bel_fp hb.out (Nat.le_of_lt hplt) (Nat.le_refl _) F2
              have B3 := Lib.hid (B2.alloc (by have := H2.row.lt; omega) (.cells #[.string fa, .string fb] 24))
              have e1 := fun o => Lib.cell?_alloc_some o (H2.row.cell 1 _ rfl)
              clear H2 L2 F2 B2
              go_wp2_with fail
              go_big_quiet (fail)
              go_wp2_with fail
              go_ret2
              rw [hfin2.out]
              exact ⟨none, 0, rfl, World.ownsRow_nil _ _ _ _, by rw [hp.out]; exact B3.out.trans ((Still.drewN _ _).below.mono (by have := B3.out.size; have := hp.out; omega))⟩
    · have hg : Hid (fget (x :: y :: r) = ([], 5)) := Lib.hid (by
        unfold fget
        rw [if_neg (by simp), if_pos]
        rcases Classical.em (x = 0) with h | h
        · exact .inr (fun e => hz ⟨h, e⟩)
        · exact .inl h)
      have hxy : ((x.toNat : Int) != 0) = true ∨ (((x.toNat : Int) != 0) = false ∧ ((y.toNat : Int) != 0) = true) := by
        rcases Classical.em (x = 0) with h | h
        · right
          subst h
          refine ⟨rfl, ?_⟩
          have : y ≠ 0 := fun e => hz ⟨rfl, e⟩
          exact u8_ne' this
        · left
          exact u8_ne' h
      obtain ⟨a, ha⟩ : ∃ a : Int, (x.toNat : Int) = a := ⟨_, rfl⟩
      obtain ⟨b2, hb2⟩ : ∃ b : Int, (y.toNat : Int) = b := ⟨_, rfl⟩
      rw [ha] at h0
      rw [hb2] at h1
      rw [ha, hb2] at hxy
      clear hr hz ha hb2
      rcases hxy with h | ⟨h, h2⟩
      all_goals
        go_enter Try.func9, Try.ntmps9
        go_wp2_with fail
        go_ret2
        rw [hg.out]
        exact ⟨none, 0, rfl, World.ownsRow_nil _ _ _ _, Below.refl _ _⟩
end Go.Proofs.Ytjkimabcpamdcaa
