/- income.Put: its contract. -/
import Derived.Test.YtlaomllgjiochaaIncG
namespace Go.Proofs.Ytlaomllgjiochaa
open Go.RowKit

set_option maxHeartbeats 4000000 in
theorem put_ok0 (p cc : Nat) (vD vC : Value) (s : Inc) (off : Nat) (A : Option Addr) (e : Bool) (w : World) (h : IsInc w p vD vC s) (hb : (off : Int) ≤ s.most) (hc : iclash s off [] e = false) :
    Calls Try.prog 10 #[.pointer (some ⟨p, 0, none⟩), .int .i64 off, .slice A 0 cc, .bool e] w (PutPost p vD vC (iput s off [] e) w) := by
  have c0 := wrote_cell h.cell 0 _ rfl
  have c1 := wrote_cell h.cell 1 _ rfl
  have c3 := wrote_cell h.cell 3 _ rfl
  have g1 := frozen_of_row _ p 1 _ _ h.cell
  have g3 := frozen_of_row _ p 3 _ _ h.cell
  have k0 := h.ok.most0
  have k1 := h.ok.most1
  have CC := Lib.hid (clash_any p vD vC s off cc A [] e w h (Rd.nil _ _) (by simp) (by omega))
  rw [hc] at CC
  simp only [List.length_nil] at CC
  have hok := iput_ok s off [] e h.ok (by simpa using hb)
  have hT := Lib.hid (fun w' => h.turn (w' := w') (s' := iput s off [] e))
  have H0 := Lib.hid h.cell
  have hI := Lib.hid h
  replace hok := Lib.hid hok
  clear h
  cases e with
  | true =>
    go_enter Try.func10, Try.ntmps10
    go_wp2_with fail
    refine CC.out.mono ?_
    rintro r w' ⟨rfl, rfl⟩
    go_wp2_with fail
    go_loopw [46] (fun _ wr => w = wr) (fun _ _ => 0)
    case atStart => rfl
    case round =>
      subst hrel
      go_wp2_with fail
      go_loopw [78] (fun i wr => i = .int .i64 0 ∧ w = wr) (fun _ _ => 0)
      case atStart => exact ⟨rfl, rfl⟩
      case round =>
        obtain ⟨rfl, rfl⟩ := hrel
        go_wp2_with fail
        go_ret
        have f : Fr (· = p) w ((w.setCell ⟨p, 1, none⟩ (.int .i64 off)).setCell ⟨p, 3, none⟩ (.int .i64 off)) := ((Fr.refl (· = p) w).setCell (p := ⟨p, 1, none⟩) (fun _ => rfl) _).setCell (p := ⟨p, 3, none⟩) (fun _ => rfl) _
        exact ⟨vD, vC, rfl, hT.out _ f (by simp [iput]) (by rw [heap_setCell_same _ p 3 _ _ _ (heap_setCell_same _ p 1 _ _ _ H0.out)]; simp [iput]) hok.out, f.mono (fun k hk _ => by subst hk; exact .inl rfl), fun k hk => .inl hk⟩
  | false =>
    go_enter Try.func10, Try.ntmps10
    go_wp2_with fail
    refine CC.out.mono ?_
    rintro r w' ⟨rfl, rfl⟩
    go_wp2_with fail
    go_loopw [46] (fun _ wr => w = wr) (fun _ _ => 0)
    case atStart => rfl
    case round =>
      subst hrel
      go_wp2_with fail
      go_loopw [78] (fun i wr => i = .int .i64 0 ∧ w = wr) (fun _ _ => 0)
      case atStart => exact ⟨rfl, rfl⟩
      case round =>
        obtain ⟨rfl, rfl⟩ := hrel
        go_wp2_with fail
        go_ret
        have e : iput s off [] false = s := by simp [iput]
        rw [e]
        exact ⟨vD, vC, rfl, hI.out, Fr.refl _ _, fun k hk => .inl hk⟩

/-- What Put answers; what the In is then. -/
def iputr (s : Inc) (off : Int) (l : List UInt8) (e : Bool) : Int :=
  if off < 0 then 2 else if s.most < off ∨ s.most - off < l.length then 11 else if iclash s off.toNat l e then 12 else 0
def iputs (s : Inc) (off : Int) (l : List UInt8) (e : Bool) : Inc := if iputr s off l e = 0 then iput s off.toNat l e else s
def PutAny (p : Nat) (vD vC : Value) (s : Inc) (n : Int) (w : World) (r : Ending) (w2 : World) : Prop :=
  ∃ vD2 vC2, r = .returned (.int .i64 n) ∧ IsInc w2 p vD2 vC2 s ∧ Fr (IncS p vD vC) w w2 ∧ ∀ k, IncS p vD2 vC2 k → IncS p vD vC k ∨ w.heap.size ≤ k

theorem iput_any (p cc : Nat) (vD vC : Value) (s : Inc) (off : Int) (A : Option Addr) (l : List UInt8) (e : Bool) (w : World) (h : IsInc w p vD vC s) (hr : Rd w A (bv l)) (hA : 0 < l.length → ∀ a, A = some a → ¬ IncS p vD vC a.block) (hl : l.length ≤ 140737488355328) (ho : off ≤ 9223372036854775807) :
    Calls Try.prog 10 #[.pointer (some ⟨p, 0, none⟩), .int .i64 off, .slice A l.length cc, .bool e] w (PutAny p vD vC (iputs s off l e) (iputr s off l e) w) := by
  have same : ∀ n : Int, iputr s off l e = n → n ≠ 0 → ∀ r w', r = Ending.returned (.int .i64 n) ∧ w = w' → PutAny p vD vC (iputs s off l e) (iputr s off l e) w r w' := by
    rintro n hn hz r w' ⟨rfl, rfl⟩
    refine ⟨vD, vC, by rw [hn], ?_, Fr.refl _ _, fun k hk => .inl hk⟩
    rw [iputs, if_neg (by rw [hn]; exact hz)]; exact h
  by_cases h0 : off < 0
  · refine (put_neg p (.slice A l.length cc) (.int .i64 0) e off w h0).mono (same 2 ?_ (by decide))
    rw [iputr, if_pos h0]
  · by_cases h1 : s.most < off ∨ s.most - off < l.length
    · refine (put_bound p cc vD vC s off A l.length e w h (by omega) ho (by omega) h1).mono (same 11 ?_ (by decide))
      rw [iputr, if_neg h0, if_pos h1]
    · obtain ⟨k, rfl⟩ := Int.eq_ofNat_of_zero_le (show 0 ≤ off by omega)
      by_cases h2 : iclash s k l e = true
      · refine (put_clash p cc vD vC s k A l e w h hr (by omega) h2).mono (same 12 ?_ (by decide))
        rw [iputr, if_neg h0, if_neg h1, if_pos (by simpa using h2)]
      · have hz : iputr s k l e = 0 := by rw [iputr, if_neg h0, if_neg h1, if_neg (by simpa using h2)]
        have h3 : iclash s k l e = false := by simpa using h2
        rw [iputs, if_pos hz, hz]
        rcases Nat.eq_zero_or_pos l.length with hz0 | hp
        · have : l = [] := List.eq_nil_of_length_eq_zero hz0
          subst this
          exact put_ok0 p cc vD vC s k A e w h (by omega) h3
        · exact put_ok p cc vD vC s k A l e w h hr hA (by omega) h3 hp
end Go.Proofs.Ytlaomllgjiochaa
