/- flight: Came. -/
import Derived.Test.YtifigmhecgbfoaaFlI
namespace Go.Proofs.Ytifigmhecgbfoaa
open Go.RowKit

theorem run_max2u {P : Program} (x y m : Int) (h : m = max x y) (ts : Array TypeId) (t : TypeId) (w : World) : (Builtin.max_ ts t #[.int .u64 x, .int .u64 y]).run P w = .ok (.int .u64 m) w := by
  rw [run_max_int2, h]
  congr 2
  split <;> omega
def rbad (f : Fl) (r : Rg) : Bool := decide (r.hi < r.lo) || (!f.any || decide (f.last < r.hi))
def fheard (f : Fl) (rs : List Rg) : Fl := ⟨f.l, f.any, f.came || !rs.isEmpty, f.last, f.tick, rs.foldl (fun m r => max m r.hi) f.largest⟩
theorem fheard_snoc (f : Fl) (rs : List Rg) (r : Rg) : fheard f (rs ++ [r]) = ⟨f.l, f.any, true, f.last, f.tick, max (fheard f rs).largest r.hi⟩ := by
  simp [fheard]

section
variable {w w' : World} {p : Nat} {A : Option Addr} {c : Nat} {f : Fl}
set_option maxHeartbeats 8000000 in
theorem came_no (h : IsFl w p A c f) (rs : List Rg) (R : Option Addr) (cr : Nat) (hr : Rd w R (rgv rs)) (hl : rs.length ≤ 1000000) (hbad : rs.any (rbad f) = true) :
    Calls Try.prog 15 #[.pointer (some ⟨p, 0, none⟩), .slice R rs.length cr] w fun e w' => e = .returned (.tuple #[.slice none 0 0, .bool false]) ∧ Below w.heap.size w w' := by
  have hB : ∀ m, (w.alloc (.cells #[.slice R rs.length cr] m)).cell? ⟨w.heap.size, 0, none⟩ = some (.slice R rs.length cr) := fun m => by rw [World.cell?_alloc_new]; rfl
  have hA := Lib.hid (fun o => (Below.refl w.heap.size w).alloc (Nat.le_refl _) o)
  have HB := Lib.hid hbad
  have HI := Lib.hid h
  have HR := Lib.hid hr
  clear hbad h hr
  go_enter Try.func15, Try.ntmps15
  go_wp2_with fail
  go_loopw [7, 14] (fun _ i wr => ∃ k : Nat, k ≤ rs.length ∧ i = .int .i64 k ∧ Hid (∀ j, j < k → ∀ y, rs[j]? = some y → rbad f y = false) ∧ Hid (Below w.heap.size w wr)) (fun _ i _ => rs.length - (intOf i).toNat)
  case atStart => exact ⟨0, by omega, rfl, Lib.hid (fun j hj => absurd hj (by omega)), Lib.hid (hA.out _)⟩
  case round =>
    obtain ⟨k, hk, rfl, HT, HW⟩ := hrel
    by_cases hkl : k < rs.length
    · obtain ⟨b, off, rfl, l0, l1⟩ := load_rg (HR.out.fr (Fr.of_below HW.out NoS) (fun _ _ _ x => x)) hkl
      obtain ⟨y, hy⟩ : ∃ y, rs[k] = y := ⟨_, rfl⟩
      have hy' : Hid (rs[k]? = some y) := Lib.hid (by rw [List.getElem?_eq_getElem hkl, hy])
      rw [hy] at l0 l1
      have I := HI.out.below HW.out
      have hbl : Hid (∀ o n, Below w.heap.size w ((wr.alloc o).drewN n)) := Lib.hid (fun o n => HW.out.trans ((((Fr.refl NoS wr).alloc o).drewN n).below.mono HW.out.size))
      obtain ⟨lo, hlo⟩ : ∃ x : Int, (y.lo : Int) = x := ⟨_, rfl⟩
      obtain ⟨hi, hhi⟩ : ∃ x : Int, (y.hi : Int) = x := ⟨_, rfl⟩
      obtain ⟨la, hla⟩ : ∃ x : Int, (f.last : Int) = x := ⟨_, rfl⟩
      obtain ⟨an, han⟩ : ∃ x : Bool, f.any = x := ⟨_, rfl⟩
      have c1 : ∀ o, (wr.alloc o).cell? ⟨p, 1, none⟩ = some (.bool an) := fun o => by rw [← han]; exact wrote_cell (I.alloc o).cell 1 _ rfl
      have c3 : ∀ o, (wr.alloc o).cell? ⟨p, 3, none⟩ = some (.int .u64 la) := fun o => by rw [← hla]; exact wrote_cell (I.alloc o).cell 3 _ rfl
      have e : rbad f y = (decide (hi < lo) || (!an || decide (la < hi))) := by
        unfold rbad
        rw [han]
        congr 1
        · by_cases h : y.hi < y.lo
          · rw [decide_eq_true h, decide_eq_true (by omega)]
          · rw [decide_eq_false h, decide_eq_false (by omega)]
        · congr 1
          by_cases h : f.last < y.hi
          · rw [decide_eq_true h, decide_eq_true (by omega)]
          · rw [decide_eq_false h, decide_eq_false (by omega)]
      simp only [hlo, hhi] at l0 l1
      replace e := Lib.hid e
      clear hy hB hlo hhi hla han I
      by_cases h1 : hi < lo
      · have b1 : decide (hi < lo) = true := decide_eq_true h1
        clear h1
        go_wp2_with fail
        go_quiet (fail)
        go_wp2_with fail
        go_ret2
        exact ⟨rfl, hbl.out _ _⟩
      · have b1 : decide (hi < lo) = false := decide_eq_false h1
        clear h1
        cases an
        · go_wp2_with fail
          go_quiet (fail)
          go_wp2_with fail
          go_ret2
          exact ⟨rfl, hbl.out _ _⟩
        · by_cases h3 : la < hi
          · have b3 : decide (la < hi) = true := decide_eq_true h3
            clear h3
            go_wp2_with fail
            go_quiet (fail)
            go_wp2_with fail
            go_ret2
            exact ⟨rfl, hbl.out _ _⟩
          · have b3 : decide (la < hi) = false := decide_eq_false h3
            clear h3
            have hg : Hid (rbad f y = false) := Lib.hid (by rw [e.out, b1, b3]; rfl)
            go_wp2_with fail
            go_quiet (fail)
            go_wp2_with fail
            go_roundw
            case rel => exact ⟨k + 1, by omega, by go_num, Lib.hid (fun j hj z hz => by
                rcases Nat.lt_or_ge j k with h | h
                · exact HT.out j h z hz
                · have : j = k := by omega
                  subst this
                  rw [hy'.out] at hz; injection hz with hz; rw [← hz]; exact hg.out), Lib.hid (hbl.out _ _)⟩
            case measure => simp [intOf]; omega
    · exfalso
      have := HB.out
      rw [List.any_eq_true] at this
      obtain ⟨x, hx, hb⟩ := this
      obtain ⟨j, hj, rfl⟩ := List.getElem_of_mem hx
      rw [HT.out j (by omega) _ (List.getElem?_eq_getElem hj)] at hb
      cases hb
end
end Go.Proofs.Ytifigmhecgbfoaa
