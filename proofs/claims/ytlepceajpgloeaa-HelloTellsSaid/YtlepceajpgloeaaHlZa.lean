/- hello: the document's own piece, PutFinished. -/
import Derived.Test.YtlepceajpgloeaaHlZ
namespace Go.Proofs.Ytlepceajpgloeaa
open Go.RowKit

set_option maxRecDepth 100000 in
set_option maxHeartbeats 2000000 in
theorem rpiece_any (x0 : UInt8) (kv : Int) (l : List UInt8) (A : Option Addr) (c n : Nat) (w : World) (hk : (x0.toNat : Int) = kv) (hn : l.length = n) (hr : Rd w A (bv l)) (hl : n ≤ 1000000) :
    Calls Try.prog 24 #[.int .u8 kv, .slice A n c] w (RetS 5 w (4 + n) (bv (hpiece x0 l))) := by
  have e1 := u8val (n / 65536)
  have e2 := u8val (n / 256)
  have e3 := u8val n
  have hp : hpiece x0 l = [x0, UInt8.ofNat (n / 65536), UInt8.ofNat (n / 256), UInt8.ofNat n] ++ l := by unfold hpiece hhead; rw [hn]
  obtain ⟨x1, h1⟩ : ∃ x, UInt8.ofNat (n / 65536) = x := ⟨_, rfl⟩
  obtain ⟨x2, h2⟩ : ∃ x, UInt8.ofNat (n / 256) = x := ⟨_, rfl⟩
  obtain ⟨x3, h3⟩ : ∃ x, UInt8.ofNat n = x := ⟨_, rfl⟩
  rw [h1] at e1 hp
  rw [h2] at e2 hp
  rw [h3] at e3 hp
  have f1 : (n : Int) / 65536 = x1.toNat := by omega
  have f2 : (n : Int) / 256 % 256 = x2.toNat := by omega
  have f3 : (n : Int) % 256 = x3.toNat := by omega
  obtain ⟨y1, hy1⟩ : ∃ y : Int, (x1.toNat : Int) = y := ⟨_, rfl⟩
  obtain ⟨y2, hy2⟩ : ∃ y : Int, (x2.toNat : Int) = y := ⟨_, rfl⟩
  obtain ⟨y3, hy3⟩ : ∃ y : Int, (x3.toNat : Int) = y := ⟨_, rfl⟩
  rw [hy1] at f1
  rw [hy2] at f2
  rw [hy3] at f3
  have HO : Hid (∀ cs, cs = #[Value.int .u8 kv, .int .u8 y1, .int .u8 y2, .int .u8 y3] → (w.alloc (.cells cs 5)).ownsRow w.heap.size 5 1 (.slice (some ⟨w.heap.size, 0, none⟩) 4 4) 4 (bv [x0, x1, x2, x3]) ∧ Rd (w.alloc (.cells cs 5)) A (bv l) ∧ Below w.heap.size w (w.alloc (.cells cs 5))) := Lib.hid (fun cs hcs => by
    have : cs = (bv [x0, x1, x2, x3]).toArray := by rw [hcs]; simp [bv, hk, hy1, hy2, hy3]
    subst this
    exact ⟨World.ownsRow_lit w _ 4 (Nat.le_refl _) (by simp [maxLen]) rfl, hr.alloc _, (Below.refl _ w).alloc (Nat.le_refl _) _⟩)
  replace hp := Lib.hid hp
  replace hn := Lib.hid hn
  clear e1 e2 e3 h1 h2 h3 hy1 hy2 hy3 hr hk
  go_enter Try.func24, Try.ntmps24
  go_wp2_with (at_builtin; refine Hid.out ?_)
  refine Lib.hid ?_
  have K0 := HO.out _ rfl
  obtain ⟨o0, r0, b0⟩ := K0
  refine wpList_app _ rfl _ _ 24 rfl w.heap.size 5 (.int .u8 0) 1 infoB Try.underlying24 rfl (.slice (some ⟨w.heap.size, 0, none⟩) 4 4) 4 (bv [x0, x1, x2, x3]) rfl o0 A n c (bv l) rfl (by simp [hn.out]) r0 (bv_one _) (by unfold maxLen; omega) (by omega) (by simp) ?_
  intro A1 c1 w1 ho1 hg1 _
  have b1 := Fr.under b0 b0.size ((Fr.refl (fun q => (Value.slice (some ⟨w.heap.size, 0, none⟩) 4 4).ownBlock = some q) _).grown hg1 (fun _ hq _ => hq)) (fun q hq _ => (o0.lt q hq).1)
  rw [← bv_append, ← hp.out] at ho1
  replace ho1 := Lib.hid ho1
  replace b1 := Lib.hid b1
  clear hg1 o0 r0 b0 HO f1 f2 f3
  go_wp2_with fail
  go_ret
  exact ⟨A1, c1, rfl, ho1.out, b1.out⟩

set_option maxRecDepth 100000 in
set_option maxHeartbeats 2000000 in
theorem rputfin_any (r : List UInt8) (w : World) (hr : r.length = 32) :
    Calls Try.prog 14 #[.agg (bv r).toArray] w (RetS 5 w 36 (bv (hpiece 20 r))) := by
  have R1 := Rd.fresh_mark w (bv r) 22 (0, 0)
  have B1 := (Below.refl _ w).alloc (Nat.le_refl _) (.cells (bv r).toArray 22 (0, 0))
  obtain ⟨W1, hW1⟩ : ∃ W1, w.alloc (.cells (bv r).toArray 22 (0, 0)) = W1 := ⟨_, rfl⟩
  rw [hW1] at R1 B1
  have P := Lib.hid (rpiece_any 20 20 r (some ⟨w.heap.size, 0, none⟩) 32 32 W1 rfl hr R1 (by omega))
  replace R1 := Lib.hid R1
  replace B1 := Lib.hid B1
  replace hW1 := Lib.hid hW1
  replace hr := Lib.hid hr
  obtain ⟨cs, hcs⟩ : ∃ cs, (bv r).toArray = cs := ⟨_, rfl⟩
  rw [hcs] at hW1 ⊢
  replace hcs := Lib.hid hcs
  go_enter Try.func14, Try.ntmps14
  go_wp2_with fail
  rw [hW1.out]
  refine P.out.mono ?_
  rintro e w2 ⟨A2, c2, rfl, o2, b2⟩
  have o3 := Lib.hid (own_base o2 (base2 := w.heap.size) (fun q hq => by have := (o2.lt q hq).1; have := B1.out.size; omega))
  have b3 := Lib.hid (B1.out.trans (b2.mono B1.out.size))
  clear o2 b2 P
  go_wp2_with fail
  go_ret
  exact ⟨A2, c2, rfl, o3.out, b3.out⟩
end Go.Proofs.Ytlepceajpgloeaa
