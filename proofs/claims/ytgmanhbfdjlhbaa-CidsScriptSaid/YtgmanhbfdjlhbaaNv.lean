/- Lists of numbers as cells. -/
import Derived.Test.YtgmanhbfdjlhbaaRec
namespace Go.Proofs.Ytgmanhbfdjlhbaa
open Go.RowKit
theorem infoU : (Try.prog.info? 31).map (fun i => (i.zero, i.size, i.bytes)) = some (some (.int .u64 0), 1, 8) := by kernel_rfl
def nv (l : List Nat) : List Value := l.map fun (x : Nat) => .int .u64 (x : Int)
@[simp] theorem nv_length (l : List Nat) : (nv l).length = l.length := by simp [nv]
theorem nv_append (l m : List Nat) : nv (l ++ m) = nv l ++ nv m := by simp [nv]
theorem nv_one (l : List Nat) : ∀ u ∈ nv l, u.oneCell' = true := by
  intro u hu; obtain ⟨_, _, rfl⟩ := List.mem_map.1 hu; rfl
theorem nv_take (l : List Nat) (k : Nat) : nv (l.take k) = (nv l).take k := by simp [nv, List.map_take]
theorem nv_drop (l : List Nat) (k : Nat) : nv (l.drop k) = (nv l).drop k := by simp [nv, List.map_drop]
end Go.Proofs.Ytgmanhbfdjlhbaa
