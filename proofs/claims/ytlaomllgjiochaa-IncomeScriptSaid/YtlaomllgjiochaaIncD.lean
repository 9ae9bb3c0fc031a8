/- income.Read's contract; clashes: what it returns. -/
import Derived.Test.YtlaomllgjiochaaIncC
namespace Go.Proofs.Ytlaomllgjiochaa
open Go.RowKit

def ireadn (s : Inc) (x : Int) : Nat := (min (max x 0) (irdb s : Int)).toNat
def ibytes (s : Inc) (m : Nat) : List UInt8 := ((gb s.got).drop s.rd).take m
def iread (s : Inc) (x : Int) : Inc := { s with rd := s.rd + ireadn s x }
theorem ireadn_le (s : Inc) (x : Int) : ireadn s x ≤ irdb s := by unfold ireadn; omega
theorem iread_ok (s : Inc) (x : Int) (h : s.Ok) : (iread s x).Ok :=
  ⟨h.most0, h.most1, h.en0, h.en1, by have := irdb_le s h; have := ireadn_le s x; simp only [iread]; omega, h.hi0, h.hi1, h.len⟩

/-- One cell of the In turned. -/
theorem IsInc.turn {w w' : World} {p : Nat} {vD vC : Value} {s s' : Inc} (h : IsInc w p vD vC s) (f : Fr (· = p) w w') (hg : s'.got = s.got)
    (hc : w'.heap[p]? = some (.cells #[.int .i64 s'.most, .int .i64 s'.en, .int .i64 s'.rd, .int .i64 s'.hi, vD, vC] 48 (0, 0))) (ho : s'.Ok) : IsInc w' p vD vC s' :=
  ⟨hc, by rw [hg]; exact own_fr h.data f (fun k hk => by have := h.data.lt k hk; omega), by rw [hg]; exact own_fr h.came f (fun k hk => by have := h.came.lt k hk; omega), h.apart, ho⟩

theorem iread_any (p : Nat) (vD vC : Value) (s : Inc) (x : Int) (w : World) (h : IsInc w p vD vC s) :
    Calls Try.prog 12 #[.pointer (some ⟨p, 0, none⟩), .int .i64 x] w fun e w' =>
      ∃ A c', e = .returned (.slice A (ireadn s x) c') ∧ w'.ownsRow w.heap.size 5 1 (.slice A (ireadn s x) c') (ireadn s x) (bv (ibytes s (ireadn s x))) ∧
        IsInc w' p vD vC (iread s x) ∧ Fr (· = p) w w' := by
  have CR := irdb_any p vD vC s w h
  have hle := irdb_le s h.ok
  have hok := iread_ok s x h.ok
  have hT := fun w' => h.turn (w' := w') (s' := iread s x)
  have hb := h.cell
  have hD := h.data
  have h0 := h.ok.rd
  have h1 := h.ok.len
  have h2 := h.ok.most1
  obtain ⟨A, c, rfl, hlc, hm⟩ := own_shape w h.data
  have hcc : c ≤ 9223372036854775807 := by simpa [maxLen] using hm
  have hR := Rd.of_own h.data
  rcases own_cases h.data with ⟨rfl, hn, rfl, hx⟩ | ⟨g, rfl, hg, _⟩
  · have hr : s.rd = 0 := by omega
    have hq : irdb s = 0 := by omega
    have hm0 : ireadn s x = 0 := by have := ireadn_le s x; omega
    have hb0 : ibytes s 0 = [] := by simp [ibytes]
    have hi : iread s x = s := by unfold iread; rw [hm0]; rfl
    rw [hi] at hT hok ⊢
    rw [hm0, hb0]
    rw [hq] at CR
    have hb' := hb
    rw [hr, hn] at hb'
    have key : Calls Try.prog 12 #[.pointer (some ⟨p, 0, none⟩), .int .i64 x] w fun e w' => ∃ A c', e = .returned (.slice A 0 c') ∧ w'.ownsRow w.heap.size 5 1 (.slice A 0 c') 0 [] ∧ w'.heap[p]? = some (.cells #[.int .i64 s.most, .int .i64 s.en, .int .i64 0, .int .i64 s.hi, .slice none 0 0, vC] 48 (0, 0)) ∧ Fr (· = p) w w' := by
      by_cases hx : x < 0
      · exact iread_n0 p x _ _ _ _ w hb' hx (Lib.hid CR)
      · by_cases hx : 0 < x
        · exact iread_n2 p x _ _ _ _ w hb' hx (Lib.hid CR)
        · obtain rfl : x = 0 := by omega
          exact iread_n1 p _ _ _ _ w hb' (Lib.hid CR)
    refine key.mono ?_
    rintro e w' ⟨A', c', he, ho, hh, hf⟩
    exact ⟨A', c', he, ho, by rw [hn] at hT ⊢; exact hT w' hf rfl (by rw [hr]; exact hh) hok, hf⟩
  · have key : Calls Try.prog 12 #[.pointer (some ⟨p, 0, none⟩), .int .i64 x] w (IReadR p s.rd g s.got.length c (ireadn s x) (.int .i64 s.most) (.int .i64 s.en) (.int .i64 s.hi) vC (gb s.got) w) := by
      by_cases hx : x < 0
      · have hm0 : ireadn s x = 0 := by unfold ireadn; omega
        rw [hm0]
        by_cases hcr : c = s.rd
        · subst hcr
          exact iread_zb0 p s.rd (irdb s) g s.got.length x _ _ _ _ _ w (by simp) hb hR (by omega) hle (by omega) (by omega) hcc hx (Lib.hid CR)
        · exact iread_za0 p s.rd (irdb s) g s.got.length c x _ _ _ _ _ w (by simp) hb hR (by omega) hle (by omega) (by omega) hcc hx hcr (Lib.hid CR)
      · by_cases hx0 : x = 0
        · subst hx0
          have hm0 : ireadn s 0 = 0 := by unfold ireadn; omega
          rw [hm0]
          by_cases hcr : c = s.rd
          · subst hcr
            exact iread_zb1 p s.rd (irdb s) g s.got.length _ _ _ _ _ w (by simp) hb hR (by omega) hle (by omega) (by omega) hcc (Lib.hid CR)
          · exact iread_za1 p s.rd (irdb s) g s.got.length c _ _ _ _ _ w (by simp) hb hR (by omega) hle (by omega) (by omega) hcc hcr (Lib.hid CR)
        · by_cases hq : irdb s = 0
          · have hm0 : ireadn s x = 0 := by have := ireadn_le s x; omega
            rw [hm0]
            rw [hq] at CR
            by_cases hcr : c = s.rd
            · subst hcr
              exact iread_zb2 p s.rd g s.got.length x _ _ _ _ _ w (by simp) hb hR (by omega) (by omega) (by omega) (by omega) hcc (by omega) (Lib.hid CR)
            · exact iread_za2 p s.rd g s.got.length c x _ _ _ _ _ w (by simp) hb hR (by omega) (by omega) (by omega) (by omega) hcc (by omega) hcr (Lib.hid CR)
          · by_cases hf : x ≤ irdb s
            · obtain ⟨m, rfl⟩ := Int.eq_ofNat_of_zero_le (show 0 ≤ x by omega)
              have hm0 : ireadn s m = m := by unfold ireadn; omega
              rw [hm0]
              exact iread_fit p s.rd (irdb s) g s.got.length c m _ _ _ _ _ w (by simp) hb hR (by omega) hle (by omega) (by omega) hcc (by omega) (by omega) (Lib.hid CR)
            · have hm0 : ireadn s x = irdb s := by unfold ireadn; omega
              rw [hm0]
              exact iread_more p s.rd (irdb s) g s.got.length c x _ _ _ _ _ w (by simp) hb hR (by omega) hle (by omega) (by omega) hcc (by omega) (by omega) (Lib.hid CR)
    refine key.mono ?_
    rintro e w' ⟨A', c', he, ho, hh, hf⟩
    exact ⟨A', c', he, ho, hT w' hf rfl hh hok, hf⟩
end Go.Proofs.Ytlaomllgjiochaa
