/- outgo: next: what it returns. -/
import Derived.Test.YtljpboikjhckiaaOutB
namespace Go.Proofs.Ytljpboikjhckiaa
open Go.RowKit

/-- What is to be sent: where it begins, how many bytes, whether there is any. -/
def onext (S : List UInt8) (n : Nat) (room allow : Int) : Int × Int × Bool :=
  let L := ahead (S.take n) 2
  let F := ahead (S.take n) 0
  if L < n then (L, min (runOf (S.drop L) 2 (n - L) : Int) room, true)
  else if S[n]? = some 2 then (n, 0, true)
  else if F < n then (if (F : Int) < allow then (F, min (min (runOf (S.drop F) 0 (n - F) : Int) room) (allow - F), true) else (0, 0, false))
  else if S[n]? = some 0 then (n, 0, true) else (0, 0, false)

def NextPost (w : World) (r : Int × Int × Bool) (e : Ending) (w' : World) : Prop :=
  e = .returned (.tuple #[.int .i64 r.1, .int .i64 r.2.1, .bool r.2.2]) ∧ ∃ k, w' = w.drewN k

section
variable {w w' : World} {p g n : Nat} {AD : Option Addr} {cD : Nat} {D S : List UInt8}
theorem fidb_yes {l : List UInt8} {x : UInt8} (h : ahead l x < l.length) : fidb l x = ahead l x := by rw [fidb, if_pos h]
theorem fidb_no {l : List UInt8} {x : UInt8} (h : ¬ ahead l x < l.length) : fidb l x = -1 := by rw [fidb, if_neg h]

set_option maxHeartbeats 4000000 in
theorem onext_any (h : IsOut w p g n AD cD D S) (room allow : Int) (hr0 : 0 ≤ room) (hr1 : room ≤ 9223372036854775807) (ha0 : -9223372036854775808 ≤ allow) (ha1 : allow ≤ 9223372036854775807) :
    Calls Try.prog 27 #[.pointer (some ⟨p, 0, none⟩), .int .i64 room, .int .i64 allow] w (NextPost w (onext S n room allow)) := by
  have c0 := wrote_cell h.cell 0 _ rfl
  have c1 := wrote_cell h.cell 1 _ rfl
  have hs := h.small
  have hl := h.lS
  have hlt : (S.take n).length = n := by simp; omega
  obtain ⟨b1, o1, e1, g1⟩ := h.rdS.at_ (k := n) (by simp; omega)
  injection e1 with e1
  injection e1 with e1 e2
  subst e1 e2
  simp only [bv, List.getElem_map, Nat.zero_add] at g1
  obtain ⟨v, hv⟩ : ∃ v, S[n]'(by omega) = v := ⟨_, rfl⟩
  have hv' : S[n]? = some v := by rw [List.getElem?_eq_getElem (by omega), hv]
  rw [hv] at g1
  have CL := Lib.hid (fun k => find_any (h.drewN k) 2)
  have CF := Lib.hid (fun k => find_any (h.drewN k) 0)
  have CR := Lib.hid (fun k f x hf => run_any (h.drewN k) f x hf)
  unfold onext
  obtain ⟨L, hL⟩ : ∃ L, ahead (S.take n) 2 = L := ⟨_, rfl⟩
  obtain ⟨F, hF⟩ : ∃ F, ahead (S.take n) 0 = F := ⟨_, rfl⟩
  have hLf : fidb (S.take n) 2 = if L < n then (L : Int) else -1 := by rw [fidb, hlt, hL]
  have hFf : fidb (S.take n) 0 = if F < n then (F : Int) else -1 := by rw [fidb, hlt, hF]
  rw [hLf] at CL
  rw [hFf] at CF
  simp only [hL, hF, hv', Option.some.injEq]
  clear hv hv' h hL hF hLf hFf hlt
  replace hl := Lib.hid hl
  by_cases hLn : L < n
  · rw [if_pos hLn] at CL ⊢
    have hrl := runOf_le (S.drop L) 2 (n - L)
    replace CR := Lib.hid (fun k => CR.out k L 2 (by omega))
    obtain ⟨R, hR⟩ : ∃ R, runOf (S.drop L) 2 (n - L) = R := ⟨_, rfl⟩
    rw [hR] at CR hrl ⊢
    obtain ⟨M, hM⟩ : ∃ M, min (R : Int) room = M := ⟨_, rfl⟩
    have HM := fun ts t w => run_min2 (P := Try.prog) R room M hM.symm ts t w
    rw [hM]
    clear hM hR
    go_enter Try.func27, Try.ntmps27
    go_wp2_with fail
    go_quiet (fail)
    go_wp2_with fail
    refine (CL.out _).mono ?_
    rintro e w' ⟨rfl, k1, rfl⟩
    rw [World.drewN_drewN]
    go_wp2_with fail
    refine (CR.out _).mono ?_
    rintro e w' ⟨rfl, rfl⟩
    go_wp2_with fail
    go_ret3
    exact ⟨rfl, _, rfl⟩
  · rw [if_neg hLn] at CL ⊢
    replace hLn := Lib.hid hLn
    by_cases hv2 : v = 2
    · subst hv2
      rw [if_pos rfl]
      go_enter Try.func27, Try.ntmps27
      go_wp2_with fail
      go_quiet (fail)
      go_wp2_with fail
      refine (CL.out _).mono ?_
      rintro e w' ⟨rfl, k1, rfl⟩
      rw [World.drewN_drewN]
      go_wp2_with fail
      go_ret3
      exact ⟨rfl, _, rfl⟩
    · rw [if_neg hv2]
      have hne2 : ((v.toNat : Int) == 2) = false := u8_ne hv2
      replace hv2 := Lib.hid hv2
      by_cases hFn : F < n
      · rw [if_pos hFn] at CF ⊢
        by_cases hFa : (F : Int) < allow
        · rw [if_pos hFa]
          have hrl := runOf_le (S.drop F) 0 (n - F)
          replace CR := Lib.hid (fun k => CR.out k F 0 (by omega))
          obtain ⟨R, hR⟩ : ∃ R, runOf (S.drop F) 0 (n - F) = R := ⟨_, rfl⟩
          rw [hR] at CR hrl ⊢
          obtain ⟨M, hM⟩ : ∃ M, min (min (R : Int) room) (allow - F) = M := ⟨_, rfl⟩
          have HM := fun ts t w => run_min3 (P := Try.prog) R room (allow - F) M hM.symm ts t w
          rw [hM]
          clear hM hR
          go_enter Try.func27, Try.ntmps27
          go_wp2_with fail
          go_quiet (fail)
          go_wp2_with fail
          refine (CL.out _).mono ?_
          rintro e w' ⟨rfl, k1, rfl⟩
          rw [World.drewN_drewN]
          go_wp2_with fail
          refine (CF.out _).mono ?_
          rintro e w' ⟨rfl, k2, rfl⟩
          rw [World.drewN_drewN]
          go_wp2_with fail
          refine (CR.out _).mono ?_
          rintro e w' ⟨rfl, rfl⟩
          go_wp2_with fail
          go_ret3
          exact ⟨rfl, _, rfl⟩
        · rw [if_neg hFa]
          go_enter Try.func27, Try.ntmps27
          go_wp2_with fail
          go_quiet (fail)
          go_wp2_with fail
          refine (CL.out _).mono ?_
          rintro e w' ⟨rfl, k1, rfl⟩
          rw [World.drewN_drewN]
          go_wp2_with fail
          refine (CF.out _).mono ?_
          rintro e w' ⟨rfl, k2, rfl⟩
          rw [World.drewN_drewN]
          go_wp2_with fail
          go_ret3
          exact ⟨rfl, _, rfl⟩
      · rw [if_neg hFn] at CF ⊢
        replace hFn := Lib.hid hFn
        by_cases hv0 : v = 0
        · subst hv0
          rw [if_pos rfl]
          go_enter Try.func27, Try.ntmps27
          go_wp2_with fail
          go_quiet (fail)
          go_wp2_with fail
          refine (CL.out _).mono ?_
          rintro e w' ⟨rfl, k1, rfl⟩
          rw [World.drewN_drewN]
          go_wp2_with fail
          refine (CF.out _).mono ?_
          rintro e w' ⟨rfl, k2, rfl⟩
          rw [World.drewN_drewN]
          go_wp2_with fail
          go_ret3
          exact ⟨rfl, _, rfl⟩
        · rw [if_neg hv0]
          have hne0 : ((v.toNat : Int) == 0) = false := u8_ne hv0
          replace hv0 := Lib.hid hv0
          go_enter Try.func27, Try.ntmps27
          go_wp2_with fail
          go_quiet (fail)
          go_wp2_with fail
          refine (CL.out _).mono ?_
          rintro e w' ⟨rfl, k1, rfl⟩
          rw [World.drewN_drewN]
          go_wp2_with fail
          refine (CF.out _).mono ?_
          rintro e w' ⟨rfl, k2, rfl⟩
          rw [World.drewN_drewN]
          go_wp2_with fail
          go_ret3
          exact ⟨rfl, _, rfl⟩
end
end Go.Proofs.Ytljpboikjhckiaa
