/- What 'awake' of chapter 4 asks, reckoned. No program is in sight. -/
import Derived.Test.YtfhphkhkpejomaaDoorZa
import Derived.KernelRfl
set_option linter.unusedVariables false
namespace Go.Proofs.YtfhphkhkpejomaaDoor
namespace Seal
def aNon : List UInt8 := [1, 0, 0, 0, 0, 0, 0, 0, 0, 0, 0, 0, 0, 0, 0, 0]
theorem awake_bad : openR [107] [109] (sealed [107] aNon [108] [104, 101, 108, 108, 111]) = ([], 11) := by kernel_rfl
end Seal
end Go.Proofs.YtfhphkhkpejomaaDoor
