/- The reference's Same (pairs). -/
import Derived.Test.YtepgmebklhemgaaGreatDoorS8
set_option linter.unusedVariables false
set_option linter.unusedSimpArgs false
namespace Go.Proofs.YtepgmebklhemgaaGreatDoor
open Go.RowKit Wd
section
variable {w0 w : World} {M : Mem} {L : List Ent}
end
end Go.Proofs.YtepgmebklhemgaaGreatDoor
