/- Rows of bytes that are being filled; what a byte's type is. -/
import Derived.Test.YtpomjaidaignpaaWd
import Derived.Test.YtpomjaidaignpaaChecked
import Derived.Test.YtpomjaidaignpaaI5
set_option linter.unusedVariables false
set_option linter.unusedSimpArgs false
namespace Go.Proofs.Ytpomjaidaignpaa
open Go.RowKit Wd

/-- What a fresh row of n bytes holds when the first k are c. -/
def filling (n : Nat) (c : UInt8) (k : Nat) : List UInt8 := List.replicate k c ++ List.replicate (n - k) 0
theorem filling_full (n : Nat) (c : UInt8) : filling n c n = List.replicate n c := by simp [filling]
theorem filling_zero (n : Nat) (c : UInt8) : filling n c 0 = List.replicate n 0 := by simp [filling]
theorem filling_length (n : Nat) (c : UInt8) (k : Nat) (h : k ≤ n) : (filling n c k).length = n := by simp [filling]; omega
theorem filling_set (n : Nat) (c : UInt8) (k : Nat) (h : k < n) : (filling n c k).set k c = filling n c (k + 1) := by
  unfold filling
  apply List.ext_getElem
  · simp; omega
  · intro j h1 h2
    simp only [List.getElem_set, List.getElem_append, List.length_replicate, List.getElem_replicate]
    split <;> split <;> (try split) <;> first | rfl | omega
theorem made_bv (n : Nat) : madeCells #[.int .u8 0] n = (bv (filling n 0 0)).toArray := by
  apply Array.ext
  · simp [madeCells, bv, filling]
  · intro j h1 h2
    simp [madeCells, bv, filling, Nat.mod_one]

end Go.Proofs.Ytpomjaidaignpaa
