/- A file's model: what a write turns. -/
import Derived.Test.YtpomjaidaignpaaBe
import Derived.Test.YtpomjaidaignpaaBf
set_option linter.unusedVariables false
set_option linter.unusedSimpArgs false
namespace Go.Proofs.Ytpomjaidaignpaa
open Go.RowKit Wd

theorem FM.write_n (F : FM) (i : Nat) (m : List UInt8) : (F.write i m).n = F.n := by
  unfold FM.write
  split
  · rfl
  · split <;> rfl
theorem FM.write_pend (F : FM) (i : Nat) (m : List UInt8) : (F.write i m).pend.length ≤ F.pend.length + 1 := by
  unfold FM.write
  split
  · omega
  · split
    · simp [FM.fused]
    · simp [FM.put]

theorem Wd.Blk.whole {w : World} {g : Nat} {t : TypeId} {cs : List Value} (h : Blk w g t cs) : w.rangeAt g 0 cs := fun j v hj => by rw [Nat.zero_add, h.cell]; exact hj
end Go.Proofs.Ytpomjaidaignpaa
