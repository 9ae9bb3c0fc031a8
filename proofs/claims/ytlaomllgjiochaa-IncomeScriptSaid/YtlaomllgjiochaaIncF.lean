/- income.Put: the contract, arm by arm. -/
import Derived.Test.YtlaomllgjiochaaIncE
import Derived.Deep.RegionLaw
import Derived.Deep.AppendLies
namespace Go.Proofs.Ytlaomllgjiochaa
open Go.RowKit

theorem infoBo : (Try.prog.info? 4).map (fun i => (i.zero, i.size, i.bytes)) = some (some (.bool false), 1, 1) := by kernel_rfl

theorem clash_any (p : Nat) (vD vC : Value) (s : Inc) (off cc : Nat) (A : Option Addr) (l : List UInt8) (e : Bool) (w : World) (h : IsInc w p vD vC s) (hr : Rd w A (bv l)) (hl : l.length ≤ 1048576) (ho : off ≤ 1048576) :
    Calls Try.prog 28 #[.pointer (some ⟨p, 0, none⟩), .int .i64 off, .slice A l.length cc, .bool e] w fun r w' => r = .returned (.bool (iclash s off l e)) ∧ w = w' := by
  have c1 := wrote_cell h.cell 1 _ rfl
  have c3 := wrote_cell h.cell 3 _ rfl
  have c4 := wrote_cell h.cell 4 _ rfl
  have c5 := wrote_cell h.cell 5 _ rfl
  obtain ⟨AD, cD, rfl, _, _⟩ := own_shape w h.data
  obtain ⟨AC, cC, rfl, _, _⟩ := own_shape w h.came
  have k := h.ok
  have k1 := k.most1
  have k2 := k.len
  have k3 := k.en0
  have k4 := k.en1
  have k5 := k.hi0
  have k6 := k.hi1
  cases e with
  | true => exact clash_t p off s.got.length cC cD cc s.en s.hi AD AC A s.got l w rfl _ c1 c3 c4 c5 (Rd.of_own h.data) (Rd.of_own h.came) hr hl ho (by omega) k3 (by omega) k5 (by omega) (Lib.hid rfl)
  | false => exact clash_f p off s.got.length cC cD cc s.en s.hi AD AC A s.got l w rfl _ c1 c3 c4 c5 (Rd.of_own h.data) (Rd.of_own h.came) hr hl ho (by omega) k3 (by omega) k5 (by omega) (Lib.hid rfl)

set_option maxHeartbeats 2000000 in
theorem put_neg (p : Nat) (x y : Value) (e : Bool) (off : Int) (w : World) (h : off < 0) :
    Calls Try.prog 10 #[.pointer (some ⟨p, 0, none⟩), .int .i64 off, x, .bool e] w fun r w' => r = .returned (.int .i64 2) ∧ w = w' := by
  go_enter Try.func10, Try.ntmps10
  go_wp2_with fail
  go_ret
  exact ⟨rfl, rfl⟩
set_option maxHeartbeats 2000000 in
theorem put_nil (x y : Value) (e : Bool) (off : Int) (w : World) :
    Calls Try.prog 10 #[.pointer none, .int .i64 off, x, .bool e] w fun r w' => r = .returned (.int .i64 1) ∧ w = w' := by
  go_enter Try.func10, Try.ntmps10
  go_wp2_with fail
  go_ret
  exact ⟨rfl, rfl⟩
set_option maxHeartbeats 2000000 in
theorem put_bound (p cc : Nat) (vD vC : Value) (s : Inc) (off : Int) (A : Option Addr) (n : Nat) (e : Bool) (w : World) (h : IsInc w p vD vC s) (h0 : 0 ≤ off) (h1 : off ≤ 9223372036854775807) (hn : n ≤ 9223372036854775807) (hb : s.most < off ∨ s.most - off < n) :
    Calls Try.prog 10 #[.pointer (some ⟨p, 0, none⟩), .int .i64 off, .slice A n cc, .bool e] w fun r w' => r = .returned (.int .i64 11) ∧ w = w' := by
  have c0 := wrote_cell h.cell 0 _ rfl
  have k0 := h.ok.most0
  have k1 := h.ok.most1
  by_cases h2 : s.most < off
  · go_enter Try.func10, Try.ntmps10
    go_wp2_with fail
    go_ret
    exact ⟨rfl, rfl⟩
  · have h3 : s.most - off < n := by omega
    go_enter Try.func10, Try.ntmps10
    go_wp2_with fail
    go_ret
    exact ⟨rfl, rfl⟩
set_option maxHeartbeats 2000000 in
theorem put_clash (p cc : Nat) (vD vC : Value) (s : Inc) (off : Nat) (A : Option Addr) (l : List UInt8) (e : Bool) (w : World) (h : IsInc w p vD vC s) (hr : Rd w A (bv l)) (hb : (off : Int) + l.length ≤ s.most) (hc : iclash s off l e = true) :
    Calls Try.prog 10 #[.pointer (some ⟨p, 0, none⟩), .int .i64 off, .slice A l.length cc, .bool e] w fun r w' => r = .returned (.int .i64 12) ∧ w = w' := by
  have c0 := wrote_cell h.cell 0 _ rfl
  have k0 := h.ok.most0
  have k1 := h.ok.most1
  have CC := Lib.hid (clash_any p vD vC s off cc A l e w h hr (by omega) (by omega))
  rw [hc] at CC
  go_enter Try.func10, Try.ntmps10
  go_wp2_with fail
  refine CC.out.mono ?_
  rintro r w' ⟨rfl, rfl⟩
  go_wp2_with fail
  go_ret
  exact ⟨rfl, rfl⟩
end Go.Proofs.Ytlaomllgjiochaa
