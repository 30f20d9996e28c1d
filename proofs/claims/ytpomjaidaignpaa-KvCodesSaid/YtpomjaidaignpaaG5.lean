/- The reference's put, number, Head, Record (layer 18). -/
import Derived.Test.YtpomjaidaignpaaGe
import Derived.Test.YtpomjaidaignpaaPt
import Derived.Test.YtpomjaidaignpaaG4
set_option linter.unusedVariables false
set_option linter.unusedSimpArgs false
namespace Go.Proofs.Ytpomjaidaignpaa
open Go.RowKit Wd
section
variable {w0 w : World} {M : Mem} {L : List Ent}
end
end Go.Proofs.Ytpomjaidaignpaa
/- The reference's Head and Record (layer 18). -/
set_option linter.unusedVariables false
set_option linter.unusedSimpArgs false
namespace Go.Proofs.Ytpomjaidaignpaa
open Go.RowKit Wd
section
variable {w0 w : World} {M : Mem} {L : List Ent}
end
end Go.Proofs.Ytpomjaidaignpaa
/- The reference's Half, Room, Same; the log's Generation (layer 18). -/
set_option linter.unusedVariables false
set_option linter.unusedSimpArgs false
namespace Go.Proofs.Ytpomjaidaignpaa
open Go.RowKit Wd
section
variable {w0 w : World} {M : Mem} {L : List Ent} {g f gen en : Nat} {F : FM} {ls : List (List UInt8)}
theorem lgen_any (H : LS w0 w M g f F gen ls en L) : Calls Try.prog 39 #[.pointer (some ⟨g, 0, none⟩)] w fun e w' => e = .returned (.int .u64 (gen : Int)) ∧ w = w' := by
  have hi := is_any H
  have c1 := H.c1
  have HI := Lib.hid hi
  clear hi
  go_enter Try.func39, Try.ntmps39
  go_wp2_with fail
  refine HI.out.mono ?_
  rintro e w' ⟨rfl, rfl⟩
  go_wp2
  go_ret
  exact ⟨rfl, rfl⟩
end
end Go.Proofs.Ytpomjaidaignpaa
