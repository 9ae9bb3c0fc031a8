/- What a byte is in memory. -/
import Derived.Test.YtgmanhbfdjlhbaaLib
namespace Go.Proofs.Ytgmanhbfdjlhbaa
open Go.RowKit
theorem infoB : (Try.prog.info? 5).map (fun i => (i.zero, i.size, i.bytes)) = some (some (.int .u8 0), 1, 1) := by kernel_rfl
theorem bits_one : (Value.int .u8 0).cells.size = 1 := rfl
end Go.Proofs.Ytgmanhbfdjlhbaa
