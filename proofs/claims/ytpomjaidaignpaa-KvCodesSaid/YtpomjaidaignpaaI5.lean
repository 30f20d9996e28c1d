/- What a byte's type is. -/
import Derived.Test.YtpomjaidaignpaaChecked
import Derived.RowKit
namespace Go.Proofs.Ytpomjaidaignpaa
open Go.RowKit
theorem Try.info5 : (Try.prog.info? 5).map (fun i => (i.zero, i.size, i.bytes)) = some (some (.int .u8 0), 1, 1) := by kernel_rfl
end Go.Proofs.Ytpomjaidaignpaa
