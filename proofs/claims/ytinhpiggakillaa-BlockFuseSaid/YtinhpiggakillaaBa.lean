/- Contracts of block's small functions. -/
import Derived.Test.YtinhpiggakillaaWd
import Derived.Test.YtinhpiggakillaaChecked
set_option linter.unusedVariables false
set_option linter.unusedSimpArgs false
namespace Go.Proofs.Ytinhpiggakillaa
open Go.RowKit Wd

/-- What a fresh row of n bytes holds when the first k are c. -/
def filling (n : Nat) (c : UInt8) (k : Nat) : List UInt8 := List.replicate k c ++ List.replicate (n - k) 0
theorem filling_full (n : Nat) (c : UInt8) : filling n c n = List.replicate n c := by simp [filling]
theorem filling_zero (n : Nat) (c : UInt8) : filling n c 0 = List.replicate n 0 := by simp [filling]
theorem filling_length (n : Nat) (c : UInt8) (k : Nat) (h : k ≤ n) : (filling n c k).length = n := by simp [filling]; omega
theorem filling_set (n : Nat) (c : UInt8) (k : Nat) (h : k < n) : (filling n c k).set k c = filling n c (k + 1) := by
  unfold filling
  apply List.ext_getElem
  · simp; omega
  · intro j h1 h2
    simp only [List.getElem_set, List.getElem_append, List.length_replicate, List.getElem_replicate]
    split <;> split <;> (try split) <;> first | rfl | omega
theorem made_bv (n : Nat) : madeCells #[.int .u8 0] n = (bv (filling n 0 0)).toArray := by
  apply Array.ext
  · simp [madeCells, bv, filling]
  · intro j h1 h2
    simp [madeCells, bv, filling, Nat.mod_one]

theorem Try.info5 : (Try.prog.info? 5).map (fun i => (i.zero, i.size, i.bytes)) = some (some (.int .u8 0), 1, 1) := by kernel_rfl

set_option maxRecDepth 100000 in
theorem filled_any (c : UInt8) (w : World) : Calls Try.prog 11 #[.int .u8 (c.toNat : Int)] w fun e w' =>
    e = .returned (.slice (some ⟨w.heap.size, 0, none⟩) 64 64) ∧ Blk w' w.heap.size 5 (bv (List.replicate 64 c)) ∧ w.heap.size < w'.heap.size ∧ Below w.heap.size w w' := by
  obtain ⟨i0, hi, hz0, hz1, hz2⟩ := info_parts Try.info5
  have hmk : ∀ w : World, (Instr.makeSlice 28 (.int .i64 64) (.int .i64 64)).run Try.prog w = .ok (.slice (some ⟨w.heap.size, 0, none⟩) 64 64) (w.alloc (.cells (bv (filling 64 0 0)).toArray 5)) := fun w => by
    have := run_make w 28 5 i0 _ Try.underlying28 hi hz0 .i64 .i64 64 64 (by omega) (by omega) (by rw [hz2]; omega) (by omega)
    rw [this, hz1]
    simp only [Value.cells, ← made_bv]
    rfl
  clear hi hz0 hz1 hz2
  go_enter Try.func11, Try.ntmps11
  go_wp2
  go_loopw [4] (fun i wr => ∃ k : Nat, k ≤ 64 ∧ i = .int .i64 k ∧ Blk wr w.heap.size 5 (bv (filling 64 c k)) ∧ w.heap.size < wr.heap.size ∧ Below w.heap.size w wr) (fun i _ => 64 - (intOf i).toNat)
  case atStart => exact ⟨0, by omega, rfl, Blk.new w _ _, by simp, (Below.refl _ _).alloc (Nat.le_refl _) _⟩
  case round =>
    obtain ⟨k, hk, rfl, hb, hs, hbe⟩ := hrel
    have hf := hb.frozen k
    by_cases hlt : k < 64
    · obtain ⟨v, hv⟩ : ∃ v, wr.cell? ⟨w.heap.size, k, none⟩ = some v := by
        rw [hb.cell]
        exact ⟨_, List.getElem?_eq_getElem (by rw [bv_length, filling_length _ _ _ hk]; omega)⟩
      go_wp2
      go_roundw
      case rel =>
        refine ⟨k + 1, by omega, by go_num, ?_, by simpa [World.setCell] using hs, hbe.setCell (Nat.le_refl _) _⟩
        rw [← filling_set 64 c k hlt, ← bv_set]
        exact hb.set_ k _
      case measure => simp [intOf]; omega
    · obtain rfl : k = 64 := by omega
      go_wp2
      go_ret
      rw [filling_full] at hb
      exact ⟨rfl, hb, hs, hbe⟩
end Go.Proofs.Ytinhpiggakillaa
