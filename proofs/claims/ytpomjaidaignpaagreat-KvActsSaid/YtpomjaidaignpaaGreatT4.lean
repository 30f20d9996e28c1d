/- Proved: the statement KvActs of layer 20, for every input, without a condition. -/
import Derived.Test.YtpomjaidaignpaaGreatRows
import Derived.Test.YtpomjaidaignpaaGreatUa
import Derived.Test.YtpomjaidaignpaaGreatUc
import Derived.Test.YtpomjaidaignpaaGreatLw
set_option linter.unusedVariables false
set_option linter.unusedSimpArgs false
namespace Go.Proofs.YtpomjaidaignpaaGreat
open Go.ChangeShapes Go.WideShapes Go.ChangeAt Go.RowKit

theorem Tryz.cells_byte : Tryz.prog.cellsOf 5 = 1 := by kernel_rfl
theorem Tryz.own : ownKnob Tryz.prog.godebug = none := by kernel_rfl
theorem Tryz.laidOut : laidOutB Tryz.prog = true := by kernel_rfl
set_option maxRecDepth 100000 in
theorem kvActs_lifted (os : Os) (started : os.Started) (H : Type) (enc : TypeId × Value → H) :
    ReturnsInHanded {} Tryz.checked os 4 .any (Rows.kvActsSpec.pre6 enc Tryz.prog Tryz.f4 Rows.kvActsRow.domain false) (Rows.kvActsSpec.post enc Tryz.prog Tryz.f4 false true false false) := by
  refine returnsInHanded_of_change_sized (C := Tryz.checked) Tryz.own started (by kernel_rfl) Tryz.func4
    (ChangeSpec.witness6 (enc := enc) (C := Tryz.checked) false ⟨#[], #[.slice none 0 0, .slice none 0 0, .string ⟨#[]⟩], []⟩ 8 (by kernel_rfl) (by kernel_rfl) (by kernel_rfl) (by kernel_rfl)) ?_
  intro W base args ds gs before hval0 hW _ hsz0 _
  have hsz : (DataW.weightsEach Tryz.prog (Tryz.f4.params.toList ++ Rows.kvActsSpec.plain.varTypes Tryz.prog) (ds ++ gs)).all (· ≤ reachBytes) = true := hsz0
  clear hsz0
  have hval : ∀ (j : Nat) t v, Tryz.f4.params[j]? = some t → args[j]? = some v → Value.okWide Tryz.prog W .any base t v := hval0
  have hW' := hW
  obtain ⟨p, q, hA0, hV, rfl, _, _⟩ := hW
  have hA : DataW.TrodAll enc Tryz.prog W 0 (fun _ => true) true Tryz.f4.params.toList args.toList ds p := hA0
  rw [Tryz.params4] at hA hval hsz
  obtain ⟨v0, v1, v2, d0, d1, d2, p0, p1, p2, rfl, rfl, rfl, h0, h1, h2⟩ := trodAll_three hA
  obtain ⟨rfl, rfl⟩ := trodVars_none hV
  obtain ⟨A, c, l, rfl, hA1, hcl, hrb, hd⟩ := arg_bytes Tryz.underlying33 Tryz.underlying5 Tryz.cells_byte (hval 0 33 v0 rfl rfl) h0
  have hcm := arg_cap Tryz.underlying33 Tryz.underlying5 Tryz.cells_byte h0
  obtain ⟨B, d, bs, rfl, hB, hbs⟩ := arg_batches (hval 1 22 v1 rfl rfl) h1
  obtain ⟨s, rfl⟩ := okWide_string Tryz.underlying9 (hval 2 9 v2 rfl rfl)
  obtain ⟨key, rfl⟩ := str_list s
  exact (kvActs_any rfl hrb hcl (by unfold maxLen at hcm; omega) rfl hB hbs key).mono fun e W' ⟨he, hb⟩ => ⟨_, he, Lw.post_law hW' rfl Tryz.laidOut (by kernel_rfl) rfl Tryz.underlying4 rfl hb⟩

theorem kvActs_holds : Rows.KvActsSaid :=
  OpenClaim.holds_of_wide 4 Tryz.f4 rfl rfl rfl rfl rfl rfl rfl ⟨rfl, rfl, rfl, rfl, rfl⟩ rfl rfl rfl rfl rfl (by kernel_rfl) Tryz.func4 (by kernel_rfl)
    (of_decide_eq_true (by kernel_rfl)) (by unfold Func.isWrapper; first | (rw [if_pos (by decide +kernel)]; kernel_rfl) | (rw [if_neg (by decide +kernel)]; exact ⟨rfl, rfl⟩))
    (fun os started H enc _ => kvActs_lifted os started H enc)
end Go.Proofs.YtpomjaidaignpaaGreat
#print axioms Go.Proofs.YtpomjaidaignpaaGreat.kvActs_holds
