/- SHA-256 in plain Lean, more: the schedule word by word. -/
import Derived.Test.YtcdljlaoedaliaaDoorSp
set_option linter.unusedVariables false
set_option linter.unusedSimpArgs false
namespace Go.Proofs.YtcdljlaoedaliaaDoor
namespace Sha
open U3
/-- The first i words of the schedule. -/
def upto (b : List UInt8) (i : Nat) : List UInt32 := if i ≤ 16 then words b i else grow (i - 16) (words b 16)
theorem upto_length (b : List UInt8) (i : Nat) : (upto b i).length = i := by
  unfold upto
  split
  · exact words_length b i
  · rw [grow_length, words_length]; omega
theorem upto_lt (b : List UInt8) (i : Nat) (h : i < 16) : upto b (i + 1) = upto b i ++ [word b i] := by
  unfold upto
  rw [if_pos (by omega), if_pos (by omega), words_succ]
theorem upto_ge (b : List UInt8) (i : Nat) (h : 16 ≤ i) : upto b (i + 1) = upto b i ++ [nextW (upto b i)] := by
  have e : upto b i = grow (i - 16) (words b 16) := by
    unfold upto
    split
    · obtain rfl : i = 16 := by omega
      rfl
    · rfl
  rw [e]
  unfold upto
  rw [if_neg (by omega), show i + 1 - 16 = (i - 16) + 1 from by omega]
  rfl
theorem upto_end (b : List UInt8) : upto b 64 = sched b := rfl
theorem upto_zero (b : List UInt8) : upto b 0 = [] := rfl
theorem next_other (a b c d : UInt32) : ad (ad (ad d c) b) a = ad (ad (ad a b) c) d := by
  unfold ad
  apply UInt32.toNat_inj.1
  simp only [UInt32.toNat_add]
  omega
end Sha
end Go.Proofs.YtcdljlaoedaliaaDoor
