/- Proved: the card of the statement MacSame of layer 3, for every input, without a condition. -/
import Derived.Test.YthlbenbkgkahoaaDoorCards
import Derived.Test.YthlbenbkgkahoaaDoorTie
import Derived.Test.YthlbenbkgkahoaaDoorTa
import Derived.Test.YthlbenbkgkahoaaDoorM2
import Derived.Test.YthlbenbkgkahoaaDoorEa
import Derived.Test.YthlbenbkgkahoaaDoorAr
import Derived.Test.YthlbenbkgkahoaaDoorLw
set_option linter.unusedVariables false
set_option linter.unusedSimpArgs false
namespace Go.Proofs.YthlbenbkgkahoaaDoor
open Go.ChangeShapes Go.WideShapes Go.ChangeAt Go.RowKit Wd

theorem macSame_contract (H : Type) (enc : TypeId × Value → H) (W : World) (base : Nat) (args : Array Value) (ds gs : List (DataW H)) (before : List MemPlace)
    (hval : ∀ (j : Nat) t v, Tryd.f4.params[j]? = some t → args[j]? = some v → Value.okWide Tryd.prog W .any base t v)
    (hW : DataW.Whole enc Tryd.prog Tryd.f4.params.toList Rows.macSameSpec.vars false W args.toList ds gs before) (hL : laidMetH Tryd.prog Rows.macSameRow.laid W) :
    Calls Tryd.prog 4 args W fun e W' => ∃ v, e = .returned v ∧ Rows.macSameSpec.post enc Tryd.prog Tryd.f4 false true false false W args v W' := by
  have ht : Tabs W := tabs_of hL
  have hW' := hW
  obtain ⟨p, q, hA0, hV, rfl, _, _⟩ := hW
  have hA : DataW.TrodAll enc Tryd.prog W 0 (fun _ => true) true Tryd.f4.params.toList args.toList ds p := hA0
  rw [Tryd.params4] at hA hval
  obtain ⟨v0, v1, d0, d1, p0, p1, rfl, rfl, rfl, h0, h1⟩ := trodAll_two hA
  obtain ⟨rfl, rfl⟩ := trodVars_none hV
  obtain ⟨A, c, k, rfl, hA1, hkc, hrk, _⟩ := arg_bytes Tryd.underlying22 Tryd.underlying5 Tryd.cells_byte (hval 0 22 v0 rfl rfl) h0
  obtain ⟨B, d, b, rfl, hB1, hbd, hrb, _⟩ := arg_bytes Tryd.underlying22 Tryd.underlying5 Tryd.cells_byte (hval 1 22 v1 rfl rfl) h1
  have hcap := arg_cap Tryd.underlying22 Tryd.underlying5 Tryd.cells_byte h0
  unfold maxLen at hcap
  exact (macSame_any ht hrk hrb hkc hbd (by omega)).mono fun e W' ⟨he, hb⟩ => ⟨_, he, Lw.post_law hW' rfl Tryd.laidOut (by kernel_rfl) rfl Tryd.underlying4 rfl hb⟩
theorem macSame_reads (os : Os) {H : Type} (enc : TypeId × Value → H) : ∃ places, DataW.whole enc Tryd.prog ((World.laidAll Tryd.prog os Rows.macSameRow.laid).forCall (fun _ _ => 0) ⟨#[], #[.slice none 0 0, .slice none 0 0], []⟩).memory Tryd.f4.params.toList Rows.macSameSpec.vars false (#[.slice none 0 0, .slice none 0 0] : Array Value).toList 8 = some ([.nil, .nil], [], places) :=
  ⟨[], by kernel_rfl⟩
theorem macSame_met (os : Os) : laidMet Tryd.prog Rows.macSameRow.laid ((World.laidAll Tryd.prog os Rows.macSameRow.laid).forCall (fun _ _ => 0) ⟨#[], #[.slice none 0 0, .slice none 0 0], []⟩).memory :=
  laidMet_laidAll #[.slice none 0 0, .slice none 0 0] (by kernel_rfl) (by kernel_rfl)
set_option maxRecDepth 100000 in
theorem macSame_lifted (os : Os) (started : os.Started) (H : Type) (enc : TypeId × Value → H) (F : Stop.Interp) :
    ReturnsInHanded {} Tryd.checked os 4 .any ((OpenSpec.ofChange Rows.macSameSpec).preRow enc Tryd.prog Tryd.f4 Rows.macSameRow.domain false Rows.macSameRow.laid) (((OpenSpec.ofChange Rows.macSameSpec).at F).post enc Tryd.prog Tryd.f4 false true false false) := by
  obtain ⟨places, hx⟩ := macSame_reads os enc
  refine returnsInHanded_of_row (C := Tryd.checked) (s := OpenSpec.ofChange Rows.macSameSpec) Tryd.own started (by kernel_rfl) Tryd.func4
    (witness_row_at (enc := enc) (C := Tryd.checked) false (World.laidAll Tryd.prog os Rows.macSameRow.laid) #[.slice none 0 0, .slice none 0 0] rfl (by kernel_rfl) (by kernel_rfl) (by kernel_rfl)
      (OpenSpec.preRow_of_cond 8 hx (by kernel_rfl) (fun k hk => by cases hk) (by kernel_rfl) (macSame_met os))) ?_
  intro W base args ds gs before hval hW _ _ _ hL _ _
  exact macSame_contract H enc W base args ds gs before hval hW hL
theorem macSame_said : Rows.MacSameSaid :=
  OpenClaim.holds_of_cond 4 Tryd.f4 rfl rfl rfl rfl rfl rfl rfl ⟨rfl, rfl, rfl, rfl, rfl⟩ rfl rfl rfl rfl rfl (by kernel_rfl) Tryd.func4 (by kernel_rfl)
    (of_decide_eq_true (by kernel_rfl)) (by unfold Func.isWrapper; first | (rw [if_pos (by decide +kernel)]; kernel_rfl) | (rw [if_neg (by decide +kernel)]; exact ⟨rfl, rfl⟩))
    (fun os started H enc _ F => by rw [OpenClaim.pre_eq_preRow]; exact macSame_lifted os started H enc F)
theorem macSame_plain (f : FuncId) (fn : Func) (hf : Tryd.pinned.checked.prog.funcNamed "lantern/lanternlaw03.MacSame" = some f) (hfn : Tryd.pinned.checked.prog.funcs[f]? = some fn) :
    false = Tryd.pinned.checked.prog.looks [] ∧ ∀ (j : Nat) t, fn.params[j]? = some t → Tryd.pinned.checked.prog.wantsStandIn t = false := by
  obtain rfl : f = 4 := Option.some.inj ((show Tryd.prog.funcNamed "lantern/lanternlaw03.MacSame" = some 4 by kernel_rfl).symm.trans hf) |>.symm
  obtain rfl : fn = Tryd.f4 := (Option.some.inj (Tryd.func4.symm.trans hfn)).symm
  refine ⟨by kernel_rfl, fun j t ht => ?_⟩
  rw [Tryd.params4] at ht
  have hm := Array.mem_of_getElem? ht
  simp only [List.mem_toArray, List.mem_cons, List.not_mem_nil, or_false] at hm
  rcases hm with rfl | rfl
  · exact (show Tryd.prog.wantsStandIn 22 = false by kernel_rfl)
  · exact (show Tryd.prog.wantsStandIn 22 = false by kernel_rfl)
/-- THE CARD. -/
theorem macSame_card : Rows.MacSameCardSaid :=
  Claim7.holds_tied_plain_at .later [] _ _ _ _ macSame_said (fun _ h => by cases h) (by kernel_rfl) (fun _ h => by cases h) macSame_row_tie rfl ⟨rfl, rfl⟩ (by kernel_rfl) rfl macSame_plain (by kernel_rfl)
end Go.Proofs.YthlbenbkgkahoaaDoor
#print axioms Go.Proofs.YthlbenbkgkahoaaDoor.macSame_card
