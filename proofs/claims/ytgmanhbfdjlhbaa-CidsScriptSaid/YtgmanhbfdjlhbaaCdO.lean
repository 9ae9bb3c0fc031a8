/- cids: awake. -/
import Derived.Test.YtgmanhbfdjlhbaaCdN
import Derived.Test.YtgmanhbfdjlhbaaGrow
import Derived.Test.YtgmanhbfdjlhbaaSame
import Derived.Test.YtgmanhbfdjlhbaaSameV
import Derived.Test.YtgmanhbfdjlhbaaLow
namespace Go.Proofs.Ytgmanhbfdjlhbaa
open Go.RowKit

theorem same_to (b : Bool) (l m : List UInt8) (n k : Nat) (A1 A2 : Option Addr) (c1 c2 : Nat) (w : World) (hn : l.length = n) (hk : m.length = k) (h1 : Rd w A1 (bv l)) (h2 : Rd w A2 (bv m)) (hl : n ≤ 1000000) (hm : k ≤ 1000000) (hb : decide (l = m) = b) :
    Calls Try.prog 18 #[.slice A1 n c1, .slice A2 k c2] w fun e w' => e = .returned (.bool b) ∧ Still w w' := by
  subst hn hk hb
  exact still_of (same_any l m A1 A2 c1 c2 w h1 h2 (by omega) (by omega))
theorem samen_to (b : Bool) (l m : List Nat) (n k : Nat) (A1 A2 : Option Addr) (c1 c2 : Nat) (w : World) (hn : l.length = n) (hk : m.length = k) (h1 : Rd w A1 (nv l)) (h2 : Rd w A2 (nv m)) (hl : n ≤ 1000000) (hm : k ≤ 1000000) (hb : decide (l = m) = b) :
    Calls Try.prog 19 #[.slice A1 n c1, .slice A2 k c2] w fun e w' => e = .returned (.bool b) ∧ Still w w' := by
  subst hn hk hb
  exact still_of (samen_any l m A1 A2 c1 c2 w h1 h2 (by omega) (by omega))

/-- A slice whose block is guarded. -/
def Gd (P : Nat → Prop) (w : World) (A : Option Addr) (xs : List Value) : Prop := Rd w A xs ∧ ∀ a, A = some a → P a.block
theorem Gd.fr {P : Nat → Prop} {w w' : World} {A : Option Addr} {xs : List Value} (h : Gd P w A xs) (F : Fr (NotP P) w w') : Gd P w' A xs := ⟨h.1.fr F (fun _ a ha hk => hk (h.2 a ha)), h.2⟩
theorem Gd.below {P : Nat → Prop} {w w' : World} {A : Option Addr} {xs : List Value} (h : Gd P w A xs) (b : Below w.heap.size w w') : Gd P w' A xs := ⟨h.1.below b, h.2⟩
theorem Gd.wide {P Q : Nat → Prop} {w : World} {A : Option Addr} {xs : List Value} (h : Gd P w A xs) (hQ : ∀ k, P k → Q k) : Gd Q w A xs := ⟨h.1, fun a ha => hQ _ (h.2 a ha)⟩
theorem Gd.own {P : Nat → Prop} {w : World} {b e n c : Nat} {A : Option Addr} {xs : List Value} (o : w.ownsRow b e 1 (.slice A n c) n xs) : Gd (fun k => P k ∨ (Value.slice A n c).ownBlock = some k) w A xs := ⟨Rd.of_own o, fun a ha => .inr (by rw [ha]; rfl)⟩

def awf : List UInt8 := growl 8 1
def awn : List UInt8 := growl 8 2
def awt : List UInt8 := growl 16 3
def aws0 : Cd := cnew awf
def aws1 : Cd := cadd aws0 1 awn awt
def aws2 : Cd := (cforBy cpick aws1 0).1
def aws3 : Cd := (cforBy cpick aws2 2).1
def aws4 : Cd := (cret aws3).1
theorem aw_facts : caddE aws0.l 1 awn awt = 0 ∧ cforBy cpick aws1 0 = (aws2, some awf) ∧ cforBy cpick aws2 2 = (aws3, some awn) ∧ cforBy cpick aws3 4 = (aws3, none) ∧ cret aws3 = (aws4, [0]) ∧ ctok aws4.l awt = true ∧ cfree aws4.l = 0 ∧ caddE aws4.l 1 awf awt = 12 ∧ cadd aws4 1 awf awt = aws4 ∧ aws0.l.length = 1 ∧ aws4.l.length = 2 := by decide +kernel

set_option maxRecDepth 100000 in
set_option maxHeartbeats 8000000 in
theorem awake_any (w : World) :
    Calls Try.prog 8 #[] w fun e w' => e = .returned (.bool true) ∧ Below w.heap.size w w' := by
  have HA := Lib.hid aw_facts
  have e8f : Hid (awf.length = 8) := Lib.hid (by decide)
  have e8n : Hid (awn.length = 8) := Lib.hid (by decide)
  have e16 : Hid (awt.length = 16) := Lib.hid (by decide)
  go_enter Try.func8, Try.ntmps8
  go_wp2_with fail
  refine (grow_any 8 1 w (by omega) (by omega)).mono ?_
  rintro e w1 ⟨AF, cF, rfl, oF, b1⟩
  replace oF := Lib.hid oF
  replace b1 := Lib.hid b1
  go_wp2_with fail
  refine (grow_any 8 2 w1 (by omega) (by omega)).mono ?_
  rintro e w2 ⟨AN, cN, rfl, oN, b2⟩
  have hb : Hid (Below w.heap.size w w2) := Lib.hid (b1.out.trans (b2.mono b1.out.size))
  obtain ⟨B, hB⟩ : ∃ B, w2.heap.size = B := ⟨_, rfl⟩
  have RF : Hid (Gd (fun k => k < B) w2 AF (bv awf)) := Lib.hid ⟨(Rd.of_own oF.out).below b2, fun a ha => by
    have h1 := (oF.out.lt a.block (by rw [ha]; rfl)).2
    have := b2.size; omega⟩
  have RN : Hid (Gd (fun k => k < B) w2 AN (bv awn)) := Lib.hid ⟨Rd.of_own oN, fun a ha => by
    have h1 := (oN.lt a.block (by rw [ha]; rfl)).2
    omega⟩
  have hwB : Hid (∀ k, k < w.heap.size → k < B) := Lib.hid (fun k hk => by have := hb.out.size; omega)
  replace hB := Lib.hid hB
  clear oF oN b1 b2
  go_wp2_with fail
  refine (cnew_at (P := fun k => k < B) (w := w2) (fun k hk => by rw [hB.out]; exact hk) awf AF cF e8f.out RF.out.1).mono ?_
  rintro e w3 ⟨p, rfl, H, b3, _⟩
  replace hb : Hid (Below w.heap.size w w3) := Lib.hid (hb.out.trans (b3.mono hb.out.size))
  replace RF := Lib.hid (RF.out.below b3)
  replace RN := Lib.hid (RN.out.below b3)
  replace H : Hid (At OC (fun k => k < B) w3 p aws0) := Lib.hid H
  clear b3 hB
  go_wp2_with fail
  refine (grow_any 16 3 w3 (by omega) (by omega)).mono ?_
  rintro e w4 ⟨AT, cT, rfl, oT, b4⟩
  have RT : Hid (Rd w4 AT (bv awt)) := Lib.hid (Rd.of_own oT)
  replace hb : Hid (Below w.heap.size w w4) := Lib.hid (hb.out.trans (b4.mono hb.out.size))
  replace RF := Lib.hid (RF.out.below b4)
  replace RN := Lib.hid (RN.out.below b4)
  replace H := Lib.hid (H.out.below okC b4)
  clear oT b4
  go_wp2_with fail
  refine (cadd_at 0 aws1 H.out 1 awn awt AN AT 8 16 cN cT e8n.out e16.out RN.out.1 RT.out (by rw [HA.out.2.2.2.2.2.2.2.2.2.1]; omega) HA.out.1 rfl).mono ?_
  rintro e w5 ⟨rfl, H5, F5⟩
  replace hb : Hid (Below w.heap.size w w5) := Lib.hid (fp_below hb.out hb.out.size hwB.out F5)
  replace RF := Lib.hid (RF.out.fr F5)
  replace RN := Lib.hid (RN.out.fr F5)
  replace H5 := Lib.hid H5
  clear H F5 RT
  go_wp2_with fail
  refine (cfory_at aws2 awf H5.out 0 HA.out.2.1).mono ?_
  rintro e w6 ⟨A6, c6, rfl, o6, _, H6, F6⟩
  replace hb : Hid (Below w.heap.size w w6) := Lib.hid (fp_below hb.out hb.out.size hwB.out F6)
  obtain ⟨P6, hP6⟩ : ∃ P6 : Nat → Prop, (fun k => k < B ∨ (Value.slice A6 8 c6).ownBlock = some k) = P6 := ⟨_, rfl⟩
  have hw6 : Hid (∀ k, k < w.heap.size → P6 k) := Lib.hid (fun k hk => by rw [← hP6]; exact .inl (hwB.out k hk))
  replace RF : Hid (Gd P6 w6 AF (bv awf)) := Lib.hid (by rw [← hP6]; exact (RF.out.fr F6).wide (fun _ h => .inl h))
  replace RN : Hid (Gd P6 w6 AN (bv awn)) := Lib.hid (by rw [← hP6]; exact (RN.out.fr F6).wide (fun _ h => .inl h))
  have R6 : Hid (Gd P6 w6 A6 (bv awf)) := Lib.hid (by rw [← hP6]; exact Gd.own o6)
  rw [hP6] at H6
  replace H6 := Lib.hid H6
  clear H5 F6 o6 hwB hP6
  go_wp2_with fail
  refine (cfory_at aws3 awn H6.out 2 HA.out.2.2.1).mono ?_
  rintro e w7 ⟨A7, c7, rfl, o7, _, H7, F7⟩
  replace hb : Hid (Below w.heap.size w w7) := Lib.hid (fp_below hb.out hb.out.size hw6.out F7)
  obtain ⟨P7, hP7⟩ : ∃ P7 : Nat → Prop, (fun k => P6 k ∨ (Value.slice A7 8 c7).ownBlock = some k) = P7 := ⟨_, rfl⟩
  have hw7 : Hid (∀ k, k < w.heap.size → P7 k) := Lib.hid (fun k hk => by rw [← hP7]; exact .inl (hw6.out k hk))
  replace RF : Hid (Gd P7 w7 AF (bv awf)) := Lib.hid (by rw [← hP7]; exact (RF.out.fr F7).wide (fun _ h => .inl h))
  replace RN : Hid (Gd P7 w7 AN (bv awn)) := Lib.hid (by rw [← hP7]; exact (RN.out.fr F7).wide (fun _ h => .inl h))
  replace R6 : Hid (Gd P7 w7 A6 (bv awf)) := Lib.hid (by rw [← hP7]; exact (R6.out.fr F7).wide (fun _ h => .inl h))
  have R7 : Hid (Gd P7 w7 A7 (bv awn)) := Lib.hid (by rw [← hP7]; exact Gd.own o7)
  rw [hP7] at H7
  replace H7 := Lib.hid H7
  clear H6 F7 o7 hw6 hP7
  go_wp2_with fail
  refine (cforn_at aws3 H7.out 4 HA.out.2.2.2.1).mono ?_
  rintro e w8 ⟨rfl, _, b8⟩
  replace hb : Hid (Below w.heap.size w w8) := Lib.hid (hb.out.trans (b8.mono hb.out.size))
  replace RF := Lib.hid (RF.out.below b8)
  replace RN := Lib.hid (RN.out.below b8)
  replace R6 := Lib.hid (R6.out.below b8)
  replace R7 := Lib.hid (R7.out.below b8)
  replace H7 := Lib.hid (H7.out.below okC b8)
  clear b8
  go_wp2_with fail
  refine (same_to true awf awf 8 8 _ _ _ _ w8 e8f.out e8f.out R6.out.1 RF.out.1 (by omega) (by omega) (by simp)).mono ?_
  rintro e w9 ⟨rfl, s9⟩
  replace hb : Hid (Below w.heap.size w w9) := Lib.hid (hb.out.trans (s9.below.mono hb.out.size))
  replace RF := Lib.hid (RF.out.below s9.below)
  replace RN := Lib.hid (RN.out.below s9.below)
  replace R7 := Lib.hid (R7.out.below s9.below)
  replace H7 := Lib.hid (H7.out.below okC s9.below)
  clear s9 R6
  go_wp2_with fail
  refine (same_to true awn awn 8 8 _ _ _ _ w9 e8n.out e8n.out R7.out.1 RN.out.1 (by omega) (by omega) (by simp)).mono ?_
  rintro e w10 ⟨rfl, s10⟩
  replace hb : Hid (Below w.heap.size w w10) := Lib.hid (hb.out.trans (s10.below.mono hb.out.size))
  replace RF := Lib.hid (RF.out.below s10.below)
  replace H7 := Lib.hid (H7.out.below okC s10.below)
  clear s10 R7 RN
  go_wp2_with fail
  refine (cret_at aws4 [0] 1 H7.out HA.out.2.2.2.2.1 rfl).mono ?_
  rintro e w11 ⟨A11, c11, rfl, o11, H11, F11⟩
  replace hb : Hid (Below w.heap.size w w11) := Lib.hid (fp_below hb.out hb.out.size hw7.out F11)
  replace RF := Lib.hid (RF.out.fr F11)
  replace H11 := Lib.hid (H11.narrow (Q := P7) (fun k hk => .inl hk))
  have R11 : Hid (Rd w11 A11 (nv [0])) := Lib.hid (Rd.of_own o11)
  clear H7 F11 o11
  go_wp2_with fail
  refine (samen_to true [0] [0] 1 1 _ _ _ _ _ rfl rfl (R11.out.alloc _) (Rd.fresh_mark _ (nv [0]) _ _) (by omega) (by omega) (by simp)).mono ?_
  rintro e w12 ⟨rfl, s12⟩
  have b12 : Below w11.heap.size w11 w12 := ((Below.refl _ w11).alloc (Nat.le_refl _) _).trans (s12.below.mono (by simp))
  replace hb : Hid (Below w.heap.size w w12) := Lib.hid (hb.out.trans (b12.mono hb.out.size))
  replace RF := Lib.hid (RF.out.below b12)
  replace H11 := Lib.hid (H11.out.below okC b12)
  clear s12 b12 R11
  go_wp2_with fail
  refine (grow_any 16 3 w12 (by omega) (by omega)).mono ?_
  rintro e w13 ⟨AU, cU, rfl, oU, b13⟩
  have RU : Hid (Rd w13 AU (bv awt)) := Lib.hid (Rd.of_own oU)
  replace hb : Hid (Below w.heap.size w w13) := Lib.hid (hb.out.trans (b13.mono hb.out.size))
  replace RF := Lib.hid (RF.out.below b13)
  replace H11 := Lib.hid (H11.out.below okC b13)
  clear oU b13
  go_wp2_with fail
  refine (ctok_at true H11.out awt AU 16 cU e16.out RU.out HA.out.2.2.2.2.2.1).mono ?_
  rintro e w14 ⟨rfl, b14⟩
  replace hb : Hid (Below w.heap.size w w14) := Lib.hid (hb.out.trans (b14.mono hb.out.size))
  replace RF := Lib.hid (RF.out.below b14)
  replace H11 := Lib.hid (H11.out.below okC b14)
  clear b14 RU
  go_wp2_with fail
  refine (cfree_at 0 H11.out HA.out.2.2.2.2.2.2.1).mono ?_
  rintro e w15 ⟨rfl, b15⟩
  replace hb : Hid (Below w.heap.size w w15) := Lib.hid (hb.out.trans (b15.mono hb.out.size))
  replace RF := Lib.hid (RF.out.below b15)
  replace H11 := Lib.hid (H11.out.below okC b15)
  clear b15
  go_wp2_with fail
  refine (cnew_no none 0 0 w15 (by omega)).mono ?_
  rintro e w16 ⟨rfl, rfl⟩
  go_wp2_with fail
  refine (grow_any 16 3 _ (by omega) (by omega)).mono ?_
  rintro e w17 ⟨AV, cV, rfl, oV, b17⟩
  have RV : Hid (Rd w17 AV (bv awt)) := Lib.hid (Rd.of_own oV)
  replace hb : Hid (Below w.heap.size w w17) := Lib.hid (hb.out.trans (b17.mono hb.out.size))
  replace RF := Lib.hid (RF.out.below b17)
  replace H11 := Lib.hid (H11.out.below okC b17)
  clear oV b17
  go_wp2_with fail
  refine (cadd_at 12 aws4 H11.out 1 awf awt AF AV 8 16 cF cV e8f.out e16.out RF.out.1 RV.out (by rw [HA.out.2.2.2.2.2.2.2.2.2.2]; omega) HA.out.2.2.2.2.2.2.2.1 HA.out.2.2.2.2.2.2.2.2.1).mono ?_
  rintro e w18 ⟨rfl, H18, F18⟩
  replace hb : Hid (Below w.heap.size w w18) := Lib.hid (fp_below hb.out hb.out.size hw7.out F18)
  clear H18 F18 H11 RF RV
  go_wp2_with fail
  go_ret
  exact ⟨rfl, hb.out⟩
end Go.Proofs.Ytgmanhbfdjlhbaa
