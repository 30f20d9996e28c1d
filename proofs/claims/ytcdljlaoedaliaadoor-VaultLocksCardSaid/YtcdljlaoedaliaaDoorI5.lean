/- What a byte's type is. -/
import Derived.Test.YtcdljlaoedaliaaDoorChecked
import Derived.RowKit
namespace Go.Proofs.YtcdljlaoedaliaaDoor
open Go.RowKit
theorem Tryd.info5 : (Tryd.prog.info? 5).map (fun i => (i.zero, i.size, i.bytes)) = some (some (.int .u8 0), 1, 1) := by kernel_rfl
end Go.Proofs.YtcdljlaoedaliaaDoor
