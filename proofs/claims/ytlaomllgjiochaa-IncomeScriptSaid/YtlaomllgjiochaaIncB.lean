/- income: Readable, Whole, Ended: what they return; they only draw. -/
import Derived.Test.YtlaomllgjiochaaIncA
namespace Go.Proofs.Ytlaomllgjiochaa
open Go.RowKit

def irl (r : Nat) (l : List Bool) : Nat := ((l.drop r).takeWhile id).length
theorem irl_le (r : Nat) (l : List Bool) : irl r l ≤ l.length - r := by
  have := (List.takeWhile_sublist (p := id) (l := l.drop r)).length_le
  unfold irl; simpa using this

set_option maxHeartbeats 2000000 in
theorem irdb_raw (p r g n c : Nat) (l : List Bool) (w : World) (hn : l.length = n) (c2 : w.cell? ⟨p, 2, none⟩ = some (.int .i64 r)) (c5 : w.cell? ⟨p, 5, none⟩ = some (.slice (some ⟨g, 0, none⟩) n c)) (hr : Rd w (some ⟨g, 0, none⟩) (bo l)) (h1 : r ≤ n) (h2 : n ≤ c) (h3 : c ≤ 9223372036854775807) (h4 : n ≤ 1048576) :
    Calls Try.prog 19 #[.pointer (some ⟨p, 0, none⟩)] w fun e w' => e = .returned (.int .i64 (irl r l)) ∧ ∃ k, w' = w.drewN k := by
  have hmin : min (r : Int) (n : Int) = r := by omega
  have HD := hr.drop (k := r) (cap := c) (by simp; omega) (by simp; omega)
  rw [← bo_drop] at HD
  have hdl : (l.drop r).length = n - r := by simp; omega
  have hfi : fidx (l.drop r) = if irl r l < n - r then (irl r l : Int) else -1 := by unfold fidx irl; rw [hdl]
  have hle := irl_le r l
  rw [hn] at hle
  obtain ⟨q, hq⟩ : ∃ q, irl r l = q := ⟨_, rfl⟩
  rw [hq] at hfi hle ⊢
  clear hn hr hq
  by_cases hc : c = r
  · subst hc
    rw [if_pos rfl] at HD
    have hnc : n = c := by omega
    subst hnc
    have CI := Lib.hid (fun W h => index_any (l.drop n) (some ⟨g, 0, none⟩) 0 W h (by omega))
    rw [hdl, hfi, if_neg (by omega), Nat.sub_self] at CI
    have hq0 : q = 0 := by omega
    subst hq0
    clear hfi hdl hle
    go_enter Try.func19, Try.ntmps19
    go_wp2_with fail
    go_quiet ((go_at_call 30; exact quiet_left (CI.out _ (HD.drewN _))))
    go_wp2_with fail
    go_quiet (fail)
    go_wp2_with fail
    go_ret
    exact ⟨rfl, _, by rw [World.drewN_drewN]⟩
  · rw [if_neg hc] at HD
    simp only [Option.map_some, WideShapes.add_plain, Nat.zero_add] at HD
    have CI := Lib.hid (fun W h => index_any (l.drop r) (some ⟨g, r, none⟩) (c - r) W h (by omega))
    rw [hdl, hfi] at CI
    clear hfi hdl
    by_cases hlt : q < n - r
    · rw [if_pos hlt] at CI
      go_enter Try.func19, Try.ntmps19
      go_wp2_with fail
      go_quiet ((go_at_call 30; exact quiet_left (CI.out _ (HD.drewN _))))
      go_wp2_with fail
      go_ret
      exact ⟨rfl, _, rfl⟩
    · rw [if_neg hlt] at CI
      have hq' : (n : Int) - r = q := by omega
      go_enter Try.func19, Try.ntmps19
      go_wp2_with fail
      go_quiet ((go_at_call 30; exact quiet_left (CI.out _ (HD.drewN _))))
      go_wp2_with fail
      go_quiet (fail)
      go_wp2_with fail
      go_ret
      exact ⟨rfl, _, by rw [World.drewN_drewN]⟩
theorem irdb_nil (p : Nat) (w : World) (c2 : w.cell? ⟨p, 2, none⟩ = some (.int .i64 0)) (c5 : w.cell? ⟨p, 5, none⟩ = some (.slice none 0 0)) :
    Calls Try.prog 19 #[.pointer (some ⟨p, 0, none⟩)] w fun e w' => e = .returned (.int .i64 0) ∧ ∃ k, w' = w.drewN k := by
  have CI := Lib.hid (fun W => index_any [] none 0 W (Rd.nil _ _) (by decide))
  rw [show fidx [] = -1 from rfl] at CI
  go_enter Try.func19, Try.ntmps19
  go_wp2_with fail
  go_quiet ((go_at_call 30; exact quiet_left (CI.out _)))
  go_wp2_with fail
  go_quiet (fail)
  go_wp2_with fail
  go_ret
  exact ⟨rfl, _, by rw [World.drewN_drewN]⟩
theorem irdb_any (p : Nat) (vD vC : Value) (s : Inc) (w : World) (h : IsInc w p vD vC s) :
    Calls Try.prog 19 #[.pointer (some ⟨p, 0, none⟩)] w fun e w' => e = .returned (.int .i64 (irdb s)) ∧ ∃ k, w' = w.drewN k := by
  have c2 := wrote_cell h.cell 2 _ rfl
  have c5 := wrote_cell h.cell 5 _ rfl
  obtain ⟨A, c, rfl, hle, hm⟩ := own_shape w h.came
  have hk := h.ok
  have h0 := hk.rd
  have h1 := hk.len
  have h2 := hk.most1
  rcases own_cases h.came with ⟨rfl, hn, rfl, hx⟩ | ⟨g, rfl, _, _⟩
  · have hr : s.rd = 0 := by omega
    rw [hn] at c5
    rw [hr] at c2
    have e : irdb s = 0 := by
      have : s.got = [] := List.eq_nil_of_length_eq_zero hn
      unfold irdb; rw [this]; simp [gc]
    rw [e]
    exact irdb_nil p w c2 c5
  · have := irdb_raw p s.rd g s.got.length c (gc s.got) w (by simp) c2 c5 (Rd.of_own h.came) h0 hle (by simpa [maxLen] using hm) (by omega)
    exact this

theorem IsInc.drewN {w : World} {p : Nat} {vD vC : Value} {s : Inc} (h : IsInc w p vD vC s) (k : Nat) : IsInc (w.drewN k) p vD vC s := h.fr ((Fr.refl NoS w).drewN k) (fun _ _ x => x)
def iwhole (s : Inc) : Bool := decide (0 ≤ s.en) && decide ((s.rd : Int) + irdb s = s.en)
def iended (s : Inc) : Bool := iwhole s && decide ((s.rd : Int) = s.en)

set_option maxHeartbeats 1000000 in
theorem iwhole_any (p : Nat) (vD vC : Value) (s : Inc) (w : World) (h : IsInc w p vD vC s) :
    Calls Try.prog 23 #[.pointer (some ⟨p, 0, none⟩)] w fun e w' => e = .returned (.bool (iwhole s)) ∧ ∃ k, w' = w.drewN k := by
  have c1 := wrote_cell h.cell 1 _ rfl
  have c2 := wrote_cell h.cell 2 _ rfl
  have CR := Lib.hid (fun k => irdb_any p vD vC s _ (h.drewN k))
  have hle := irdb_le s h.ok
  have hk := h.ok
  have hl := hk.len
  have hm := hk.most1
  have hn0 := hk.en0
  have hn1 := hk.en1
  obtain ⟨e, he⟩ : ∃ e, s.en = e := ⟨_, rfl⟩
  obtain ⟨r, hr⟩ : ∃ e, s.rd = e := ⟨_, rfl⟩
  obtain ⟨q, hq⟩ : ∃ e, irdb s = e := ⟨_, rfl⟩
  have hI : iwhole s = (decide (0 ≤ e) && decide ((r : Int) + q = e)) := by unfold iwhole; rw [he, hr, hq]
  rw [hI]
  rw [he] at c1 hn0 hn1
  rw [hr] at c2 hle
  rw [hq] at CR hle
  clear hI he hr hq hk
  by_cases h0 : 0 ≤ e
  · have hd : decide (0 ≤ e) = true := decide_eq_true h0
    obtain ⟨t, ht⟩ : ∃ t, ((r : Int) + q == e) = t := ⟨_, rfl⟩
    have ht' : decide ((r : Int) + q = e) = t := by rw [← ht]; rfl
    rw [hd, ht', Bool.true_and]
    clear ht'
    go_enter Try.func23, Try.ntmps23
    go_wp2_with fail
    go_quiet ((go_at_call 19; first | exact Calls.quiet_of (CR.out _) | exact quiet_add (CR.out _)))
    go_wp2_with fail
    go_ret
    exact ⟨rfl, _, rfl⟩
  · have hd : decide (0 ≤ e) = false := decide_eq_false h0
    rw [hd, Bool.false_and]
    go_enter Try.func23, Try.ntmps23
    go_wp2_with fail
    go_quiet (fail)
    go_wp2_with fail
    go_ret
    exact ⟨rfl, _, rfl⟩

set_option maxHeartbeats 1000000 in
theorem iended_any (p : Nat) (vD vC : Value) (s : Inc) (w : World) (h : IsInc w p vD vC s) :
    Calls Try.prog 14 #[.pointer (some ⟨p, 0, none⟩)] w fun e w' => e = .returned (.bool (iended s)) ∧ ∃ k, w' = w.drewN k := by
  have c1 := wrote_cell h.cell 1 _ rfl
  have c2 := wrote_cell h.cell 2 _ rfl
  have CW := Lib.hid (fun k => iwhole_any p vD vC s _ (h.drewN k))
  obtain ⟨e, he⟩ : ∃ e, s.en = e := ⟨_, rfl⟩
  obtain ⟨r, hr⟩ : ∃ e, s.rd = e := ⟨_, rfl⟩
  obtain ⟨q, hq⟩ : ∃ e, iwhole s = e := ⟨_, rfl⟩
  have hI : iended s = (q && decide ((r : Int) = e)) := by unfold iended; rw [he, hr, hq]
  rw [hI]
  rw [he] at c1
  rw [hr] at c2
  rw [hq] at CW
  clear hI he hr hq
  cases q with
  | true =>
    obtain ⟨t, ht⟩ : ∃ t, ((r : Int) == e) = t := ⟨_, rfl⟩
    have ht' : decide ((r : Int) = e) = t := by rw [← ht]; rfl
    rw [ht', Bool.true_and]
    clear ht'
    go_enter Try.func14, Try.ntmps14
    go_wp2_with fail
    go_quiet ((go_at_call 23; first | exact Calls.quiet_of (CW.out _) | exact quiet_add (CW.out _)))
    go_wp2_with fail
    go_ret
    exact ⟨rfl, _, rfl⟩
  | false =>
    rw [Bool.false_and]
    go_enter Try.func14, Try.ntmps14
    go_wp2_with fail
    go_quiet ((go_at_call 23; first | exact Calls.quiet_of (CW.out _) | exact quiet_add (CW.out _)))
    go_wp2_with fail
    go_ret
    exact ⟨rfl, _, rfl⟩
end Go.Proofs.Ytlaomllgjiochaa
