/- The well known tag, reckoned. No program is in sight. -/
import Derived.Test.YthlbenbkgkahoaaDoorMa
import Derived.Test.YthlbenbkgkahoaaDoorCs
import Derived.KernelRfl
set_option linter.unusedVariables false
namespace Go.Proofs.YthlbenbkgkahoaaDoor
theorem mac_jefe : hexL ((Mac.mac [74, 101, 102, 101] [119, 104, 97, 116, 32, 100, 111, 32, 121, 97, 32, 119, 97, 110, 116, 32, 102, 111, 114, 32, 110, 111, 116, 104, 105, 110, 103, 63]).take 4) = [53, 98, 100, 99, 99, 49, 52, 54] := by kernel_rfl
end Go.Proofs.YthlbenbkgkahoaaDoor
