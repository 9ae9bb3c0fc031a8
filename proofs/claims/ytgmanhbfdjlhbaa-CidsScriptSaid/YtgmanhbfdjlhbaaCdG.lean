/- cids: what the model has of a name's type. -/
import Derived.Test.YtgmanhbfdjlhbaaCdF
import Derived.Test.YtgmanhbfdjlhbaaCpy
namespace Go.Proofs.Ytgmanhbfdjlhbaa
open Go.RowKit
theorem infoN : (Try.prog.info? 57).map (fun i => (i.zero, i.size, i.bytes)) = some (some (.agg #[.int .u64 0, .int .u8 0, .int .u8 0, .int .u8 0, .int .u8 0, .int .u8 0, .int .u8 0, .int .u8 0, .int .u8 0, .slice none 0 0, .int .i64 0, .bool false]), 12, 56) := by kernel_rfl
end Go.Proofs.Ytgmanhbfdjlhbaa
