/- Grow hands back a new slice of so many bytes, each told by its place. -/
import Derived.Test.YtgmanhbfdjlhbaaStill
import Derived.Test.YtgmanhbfdjlhbaaInfo
import Derived.OwnWalk
namespace Go.Proofs.Ytgmanhbfdjlhbaa
open Go.RowKit

def gbyte (by_ i : Nat) : UInt8 := UInt8.ofNat (i * 7 + by_ * 31 + i / 13)
def growl (n by_ : Nat) : List UInt8 := (List.range n).map (gbyte by_)
@[simp] theorem growl_length (n b : Nat) : (growl n b).length = n := by simp [growl]
def gpart (n b k : Nat) : List UInt8 := (List.range n).map fun i => if i < k then gbyte b i else 0
@[simp] theorem gpart_length (n b k : Nat) : (gpart n b k).length = n := by simp [gpart]
theorem gpart_zero (n b : Nat) : gpart n b 0 = List.replicate n 0 := by
  apply List.ext_getElem <;> simp [gpart]
theorem gpart_all (n b : Nat) : gpart n b n = growl n b := by
  apply List.ext_getElem
  · simp
  · intro i h1 h2; simp at h1; simp [gpart, growl, h1]
theorem gpart_succ (n b k : Nat) : gpart n b (k + 1) = (gpart n b k).set k (gbyte b k) := by
  apply List.ext_getElem
  · simp
  · intro i h1 h2
    simp only [gpart, List.getElem_map, List.getElem_range, List.getElem_set]
    by_cases h : k = i
    · subst h; rw [if_pos (by omega), if_pos rfl]
    · rw [if_neg h]
      by_cases h3 : i < k
      · rw [if_pos (by omega), if_pos h3]
      · rw [if_neg (by omega), if_neg h3]
theorem gbyte_val (b k : Nat) : ((gbyte b k).toNat : Int) = ((k : Int) * 7 + (b : Int) * 31 + (k : Int) / 13) % 256 := by
  unfold gbyte
  rw [UInt8.toNat_ofNat']
  omega

set_option maxHeartbeats 1000000 in
theorem grow_any (n b : Nat) (w : World) (hn : n ≤ 1000000) (hb : b ≤ 1000000) :
    Calls Try.prog 26 #[.int .i64 n, .int .i64 b] w (RetS 5 w n (bv (growl n b))) := by
  obtain ⟨i0, hi, hz0, hz1, hz2⟩ := info_parts infoB
  go_enter Try.func26, Try.ntmps26
  go_wp2_with (at_make; refine Hid.out ?_)
  refine Lib.hid ?_
  refine (wpList_make_full _ rfl _ _ 22 rfl w.heap.size 5 i0 (.int .u8 0) 1 Try.underlying22 hi hz0 hz1 _ _ _ _ n rfl rfl rfl rfl (by rw [hz2]; omega) (by unfold maxLen; omega) (Nat.le_refl _) ?_)
  intro w1 hown1 hgrow1
  have hb1 : Below w.heap.size w w1 := (Below.refl _ _).grown hgrow1 (Nat.le_refl _) (by simp)
  have ho1 : w1.ownsRow w.heap.size 5 1 (.slice (some ⟨w.heap.size, 0, none⟩) n n) n (bv (gpart n b 0)) := by
    rw [gpart_zero, bv, List.map_replicate]; have := hown1; rw [show (Value.int .u8 0).cells = #[Value.int .u8 0] from rfl, Nat.mul_one, toList_madeCells_one] at this; exact this
  replace ho1 := Lib.hid ho1
  clear hown1
  go_wp2
  go_loopw [6] (fun i wr => ∃ k : Nat, k ≤ n ∧ i = .int .i64 k ∧ wr.ownsRow w.heap.size 5 1 (.slice (some ⟨w.heap.size, 0, none⟩) n n) n (bv (gpart n b k)) ∧ Below w.heap.size w wr) (fun i _ => n - (intOf i).toNat)
  case atStart => exact ⟨0, by omega, rfl, ho1.out, hb1⟩
  case round =>
    clear ho1
    obtain ⟨k, hk, rfl, ho, hbr⟩ := hrel
    by_cases hlt : k < n
    · have q1 := ho.frozenAt k
      have q3 := ho.cellAt k (by omega)
      rw [bv_get (k := k) (by simpa using hlt)] at q3
      have st := ho.stored k (.int .u8 (gbyte b k).toNat)
      have hv := gbyte_val b k
      obtain ⟨y, hy⟩ : ∃ y : Int, ((gbyte b k).toNat : Int) = y := ⟨_, rfl⟩
      have hset : Hid ((bv (gpart n b k)).set k (.int .u8 y) = bv (gpart n b (k + 1))) := Lib.hid (by rw [gpart_succ, bv, bv, List.map_set, hy])
      rw [hy] at st
      have hbr2 : Below w.heap.size w (wr.setCell ⟨w.heap.size, k, none⟩ (.int .u8 y)) := hbr.setCell (Nat.le_refl _) _
      have hy2 : Hid (y = ((k : Int) * 7 + (b : Int) * 31 + (k : Int) / 13) % 256) := Lib.hid (hy.symm.trans hv)
      replace st := Lib.hid st
      replace ho := Lib.hid ho
      clear hv hy
      go_wp2
      rw [← hy2.out]
      go_roundw
      case rel => exact ⟨k + 1, by omega, by go_num, by rw [← hset.out]; exact st.out.1, hbr2⟩
      case measure => simp [intOf]; omega
    · have : k = n := by omega
      subst this
      go_wp2
      go_ret
      exact ⟨_, _, rfl, by rw [← gpart_all]; exact ho, hbr⟩
end Go.Proofs.Ytgmanhbfdjlhbaa
