/- The contract of mac.Check. -/
import Derived.Test.YtcdljlaoedaliaaDoorChecked
import Derived.Test.YtcdljlaoedaliaaDoorSl
set_option linter.unusedVariables false
set_option linter.unusedSimpArgs false
namespace Go.Proofs.YtcdljlaoedaliaaDoor
open Go.RowKit Wd
section
variable {w : World}
/-- Why a secret may not be. -/
def secretErr (n : Nat) : Int := if n < 8 then 1 else if 128 < n then 3 else 0
theorem check_any (s : ByteArray) : Calls Tryd.prog 56 #[.string s] w fun e w' => e = .returned (.int .i64 (secretErr s.size)) ∧ w' = w := by
  unfold secretErr
  by_cases h1 : s.size < 8
  · rw [if_pos h1]
    have q : (s.size : Int) < 8 := by omega
    go_enter Tryd.func56, Tryd.ntmps56
    go_wp2
    go_ret
    exact ⟨rfl, rfl⟩
  · rw [if_neg h1]
    have q : ¬ (s.size : Int) < 8 := by omega
    by_cases h2 : 128 < s.size
    · rw [if_pos h2]
      have q2 : (128 : Int) < (s.size : Int) := by omega
      go_enter Tryd.func56, Tryd.ntmps56
      go_wp2
      go_ret
      exact ⟨rfl, rfl⟩
    · rw [if_neg h2]
      have q2 : ¬ (128 : Int) < (s.size : Int) := by omega
      go_enter Tryd.func56, Tryd.ntmps56
      go_wp2
      go_ret
      exact ⟨rfl, rfl⟩
end
end Go.Proofs.YtcdljlaoedaliaaDoor
