/- Proved: the statement BlockActs of layer 17, for every input, without a condition. -/
import Derived.Test.YtinhpiggakillaaRows
import Derived.Test.YtinhpiggakillaaLc
import Derived.Test.YtinhpiggakillaaAa
set_option linter.unusedVariables false
set_option linter.unusedSimpArgs false
namespace Go.Proofs.Ytinhpiggakillaa
open Go.ChangeShapes Go.WideShapes Go.ChangeAt Go.RowKit

theorem Try.own : ownKnob Try.prog.godebug = none := by kernel_rfl
theorem Try.laidOut : laidOutB Try.prog = true := by kernel_rfl
set_option maxRecDepth 100000 in
theorem blockActs_lifted (os : Os) (started : os.Started) (H : Type) (enc : TypeId × Value → H) :
    ReturnsInHanded {} Try.checked os 7 .any (Rows.blockActsSpec.pre6 enc Try.prog Try.f7 Rows.blockActsRow.domain false) (Rows.blockActsSpec.post enc Try.prog Try.f7 false true false false) := by
  refine returnsInHanded_of_change_sized (C := Try.checked) Try.own started (by kernel_rfl) Try.func7
    (ChangeSpec.witness6 (enc := enc) (C := Try.checked) false ⟨#[], #[.slice none 0 0, .slice none 0 0], []⟩ 8 (by kernel_rfl) (by kernel_rfl) (by kernel_rfl) (by kernel_rfl)) ?_
  intro W base args ds gs before hval0 hW _ hsz0 _
  have hsz : (DataW.weightsEach Try.prog (Try.f7.params.toList ++ Rows.blockActsSpec.plain.varTypes Try.prog) (ds ++ gs)).all (· ≤ reachBytes) = true := hsz0
  clear hsz0
  have hval : ∀ (j : Nat) t v, Try.f7.params[j]? = some t → args[j]? = some v → Value.okWide Try.prog W .any base t v := hval0
  have hW' := hW
  obtain ⟨p, q, hA0, hV, rfl, _, _⟩ := hW
  have hA : DataW.TrodAll enc Try.prog W 0 (fun _ => true) true Try.f7.params.toList args.toList ds p := hA0
  rw [Try.params7] at hA hval hsz
  obtain ⟨v0, v1, d0, d1, p0, p1, rfl, rfl, rfl, h0, h1⟩ := trodAll_two hA
  obtain ⟨rfl, rfl⟩ := trodVars_none hV
  obtain ⟨A, c, l, rfl, hA1, hcl, hrb, hd⟩ := arg_bytes Try.underlying28 Try.underlying5 Try.cells_byte (hval 0 28 v0 rfl rfl) h0
  obtain ⟨B, d, ax, rfl, hra, hk, hlen⟩ := arg_acts (hval 1 34 v1 rfl rfl) h1
  have hc47 : c ≤ 140737488351232 := by
    rcases hd with h | ⟨elems, spare, rfl, h⟩
    · omega
    · have := sized_slice hsz (j := 0) (t := 28) (e := 5) rfl rfl Try.underlying28
      rw [show Try.prog.bytesOf 5 = 1 from by kernel_rfl] at this
      unfold reachBytes at this
      omega
  have fin : Calls Try.prog 7 #[.slice A l.length c, .slice B ax.length d] W fun e w' => e = .returned (.bool true) ∧ Below W.heap.size W w' := by
    by_cases hn : l.length < 64 ∨ 64 * 4096 < l.length ∨ l.length % 64 ≠ 0
    · exact acts_no hA1 hrb (by omega) _ hn
    · by_cases h4 : 4096 < l.length
      · exact acts_long hA1 hrb _ (by omega) h4 (by omega)
      · exact acts_main hA1 hcl hrb hra hk hlen (by omega) (by omega) (by omega)
  exact (fin).mono fun e W' ⟨he, hb⟩ => ⟨_, he, Lw.post_law hW' rfl Try.laidOut (by kernel_rfl) rfl Try.underlying4 rfl hb⟩

theorem blockActs_holds : Rows.BlockActsSaid :=
  OpenClaim.holds_of_wide 7 Try.f7 rfl rfl rfl rfl rfl rfl rfl ⟨rfl, rfl, rfl, rfl, rfl⟩ rfl rfl rfl rfl rfl (by kernel_rfl) Try.func7 (by kernel_rfl)
    (of_decide_eq_true (by kernel_rfl)) (by unfold Func.isWrapper; first | (rw [if_pos (by decide +kernel)]; kernel_rfl) | (rw [if_neg (by decide +kernel)]; exact ⟨rfl, rfl⟩))
    (fun os started H enc _ => blockActs_lifted os started H enc)
end Go.Proofs.Ytinhpiggakillaa
#print axioms Go.Proofs.Ytinhpiggakillaa.blockActs_holds
